/- stevedorekeep.texts, stevedorekeep.says: is a package short enough to be held. · stevedorekeep.sameFields: of the same fields it says so. · record.Fields: what a step of it does to the fields so far. · append(dst, src...) on a row of the call's own, from a slice that may be nil: at a step of a region that draws its order. · record.Fields: the lines of a field, joined from a slice of the call's own. -/
import Derived.Test.YtodbbfgkclkpgaaGreatDoorRK23
import Derived.Test.YtodbbfgkclkpgaaGreatDoorRK36
import Derived.Test.YtodbbfgkclkpgaaGreatDoorRK14
import Derived.Test.YtodbbfgkclkpgaaGreatDoorRK5
import Derived.Deep.QuietTactic
import Derived.BigQuiet
import Derived.Test.YtodbbfgkclkpgaaGreatDoorRK32
import Derived.RegionTactic
namespace Go.Proofs.YtodbbfgkclkpgaaGreatDoor
open Go Go.RowKit

set_option maxHeartbeats 1000000 in
set_option maxRecDepth 100000 in
theorem keepTexts_calls (v : Value) (ss : List ByteArray) (w : World) (h : StrsAt w v ss) : Calls Tryz.prog 29 #[v] w (BoolIs (textsB ss) w) := by
  obtain ⟨A, c, hv, hc, hm, hr⟩ := h.open
  subst hv
  obtain ⟨len, hlen⟩ : ∃ len, ss.length = len := ⟨_, rfl⟩
  have HL := Lib.hid hlen
  have HR := Lib.hid hr
  rw [hlen] at hc hm ⊢
  clear hlen hr h
  by_cases h40 : 40 < len
  · have F := Lib.hid (show textsB ss = false by unfold textsB; rw [HL.out]; simp; omega)
    go_enter Tryz.func29, Tryz.ntmps29
    go_wp2
    go_ret
    exact ⟨ret_bool F.out.symm, Below.refl _ _⟩
  · have F := Lib.hid (show textsB ss = ss.all (fun s => decide (s.size ≤ 100)) by unfold textsB; rw [HL.out, decide_eq_true (by omega)]; rfl)
    go_enter Tryz.func29, Tryz.ntmps29
    go_wp2_with fail
    go_loopw [3] (fun i wr => ∃ k : Nat, k ≤ len ∧ i = .int .i64 k ∧ Hid ((ss.take k).all (fun s => decide (s.size ≤ 100)) = true) ∧ Below w.heap.size w wr) (fun i _ => len - (intOf i).toNat)
    case atStart => exact ⟨0, Nat.zero_le _, rfl, rfl, Below.refl _ _⟩
    case round =>
      obtain ⟨k, hk, rfl, hall, hB⟩ := hrel
      by_cases hlt : k < len
      · have hne : ss ≠ [] := by
          intro e
          have := HL.out
          rw [e] at this
          simp at this
          omega
        obtain ⟨s, ht⟩ : ∃ s, ss[k]? = some s := ⟨ss[k]'(by have := HL.out; omega), List.getElem?_eq_getElem _⟩
        obtain ⟨b, off, rfl, hi⟩ := HR.out hne
        have c0 := kept hB (hi k s ht)
        have HT := Lib.hid ht
        clear hi hne ht
        by_cases hn : 100 < s.size
        · have HF := Lib.hid (show textsB ss = false by rw [F.out, all_stop HT.out (decide_eq_false (by omega))])
          go_wp2_with fail
          go_ret
          exact ⟨ret_bool HF.out.symm, hB⟩
        · go_wp2_with fail
          go_roundw
          case rel => exact ⟨k + 1, by omega, by go_num, Lib.hid (all_take_succ hall.out HT.out (decide_eq_true (by omega))), hB⟩
          case measure => simp [intOf]; omega
      · obtain rfl : k = len := by omega
        go_wp2_with fail
        go_ret
        exact ⟨ret_bool (by rw [F.out]; have := hall.out; rw [← HL.out] at this; exact (all_done this).symm), hB⟩

def keepFileOk (f : Fv) : Bool := decide (f.n.size ≤ 100) && decide (f.v.size ≤ 500)

set_option maxHeartbeats 6000000 in
set_option maxRecDepth 100000 in
theorem keepSays_calls (v : Value) (p : Pv) (w : World) (h : PackAt w v p) : Calls Tryz.prog 36 #[v] w (BoolIs (saysB p) w) := by
  obtain ⟨v1, v2, v3, v4, v5, v6, v7, v8, v9, rfl, h1, h2, h3, h4, h5, h6, h7, h8, h9, _, _⟩ := h
  have CSh := Lib.hid (fun (W : World) (hb : Below w.heap.size w W) => short_calls p.e p.u p.r W)
  have CDe := Lib.hid (fun (W : World) (hb : Below w.heap.size w W) => keepTerms_calls v1 p.dep W (h1.below hb))
  have CAh := Lib.hid (fun (W : World) (hb : Below w.heap.size w W) => keepTerms_calls v2 p.ahead W (h2.below hb))
  have CAg := Lib.hid (fun (W : World) (hb : Below w.heap.size w W) => keepFlat_calls v3 p.ag W (h3.below hb))
  have CBr := Lib.hid (fun (W : World) (hb : Below w.heap.size w W) => keepFlat_calls v4 p.br W (h4.below hb))
  have CRe := Lib.hid (fun (W : World) (hb : Below w.heap.size w W) => keepFlat_calls v5 p.re W (h5.below hb))
  have CPr := Lib.hid (fun (W : World) (hb : Below w.heap.size w W) => keepFlat_calls v6 p.pr W (h6.below hb))
  have CSe := Lib.hid (fun (W : World) (hb : Below w.heap.size w W) => keepTexts_calls v7 p.se W (h7.below hb))
  have CLi := Lib.hid (fun (W : World) (hb : Below w.heap.size w W) => keepTexts_calls v8 p.li W (h8.below hb))
  have F := Lib.hid (show saysB p = (decide (p.n.size ≤ 60) && (shortB p.u p.r && (termsB p.dep && (termsB p.ahead && (flatB p.ag && (flatB p.br && (flatB p.re && (flatB p.pr && (textsB p.se && (textsB p.li && filesB p.fi)))))))))) from rfl)
  obtain ⟨b0, hb0⟩ : ∃ x, shortB p.u p.r = x := ⟨_, rfl⟩
  rw [hb0] at CSh F
  obtain ⟨b1, hb1⟩ : ∃ x, termsB p.dep = x := ⟨_, rfl⟩
  rw [hb1] at CDe F
  obtain ⟨b2, hb2⟩ : ∃ x, termsB p.ahead = x := ⟨_, rfl⟩
  rw [hb2] at CAh F
  obtain ⟨b3, hb3⟩ : ∃ x, flatB p.ag = x := ⟨_, rfl⟩
  rw [hb3] at CAg F
  obtain ⟨b4, hb4⟩ : ∃ x, flatB p.br = x := ⟨_, rfl⟩
  rw [hb4] at CBr F
  obtain ⟨b5, hb5⟩ : ∃ x, flatB p.re = x := ⟨_, rfl⟩
  rw [hb5] at CRe F
  obtain ⟨b6, hb6⟩ : ∃ x, flatB p.pr = x := ⟨_, rfl⟩
  rw [hb6] at CPr F
  obtain ⟨b7, hb7⟩ : ∃ x, textsB p.se = x := ⟨_, rfl⟩
  rw [hb7] at CSe F
  obtain ⟨b8, hb8⟩ : ∃ x, textsB p.li = x := ⟨_, rfl⟩
  rw [hb8] at CLi F
  clear hb0 hb1 hb2 hb3 hb4 hb5 hb6 hb7 hb8 h1 h2 h3 h4 h5 h6 h7 h8
  have X0 := packBox_new w p v1 v2 v3 v4 v5 v6 v7 v8 v9 29
  have hB0 := below_alloc w (.cells #[.string p.n, .int .i64 p.e, .string p.u, .string p.r, v1, v2, v3, v4, v5, v6, v7, v8, v9] 29)
  obtain ⟨A, c, hv9, hc, hm, hr⟩ := h9.open
  subst hv9
  obtain ⟨len, hlen⟩ : ∃ len, p.fi.length = len := ⟨_, rfl⟩
  have HL := Lib.hid hlen
  have HR := Lib.hid hr
  rw [hlen] at hc hm X0 hB0 ⊢
  clear hlen hr h9
  obtain ⟨c0, c1, c2, c3, c4, c5, c6, c7, c8, c9, c10, c11, c12⟩ := X0
  go_enter Tryz.func36, Tryz.ntmps36
  go_upto_region 1 with fail
  obtain ⟨m, hmm⟩ : ∃ m, w.heap.size = m := ⟨_, rfl⟩
  obtain ⟨W0, hW0⟩ : ∃ x, x = w.alloc (.cells #[.string p.n, .int .i64 p.e, .string p.u, .string p.r, v1, v2, v3, v4, v5, v6, v7, v8, .slice A len c] 29) := ⟨_, rfl⟩
  rw [← hW0] at hB0 c0 c1 c2 c3 c4 c5 c6 c7 c8 c9 c10 c11 c12 ⊢
  rw [hmm] at c0 c1 c2 c3 c4 c5 c6 c7 c8 c9 c10 c11 c12
  (try rw [hmm])
  have hB := hB0
  clear hW0 hmm hB0
  by_cases h60 : 60 < p.n.size
  · have HG := Lib.hid (show saysB p = false by rw [F.out, decide_eq_false (by omega : ¬ p.n.size ≤ 60)]; rfl)
    clear F CSh CDe CAh CAg CBr CRe CPr CSe CLi c1 c2 c3 c4 c5 c6 c7 c8 c9 c10 c11 c12
    go_wp2_with fail
    go_ret
    exact ⟨ret_bool HG.out.symm, hB⟩
  have F1 := Lib.hid (F.out.trans (by rw [decide_eq_true (by omega : p.n.size ≤ 60), Bool.true_and]))
  clear F
  have D0 := Lib.hid (CSh.out _ hB)
  clear CSh
  go_wp2_with fail
  refine D0.out.mono ?_
  rintro E y0 ⟨rfl, hb⟩
  have hB0 := step_below hB hb
  clear hB
  have hB := hB0
  clear hB0
  replace c4 := kept hb c4
  replace c5 := kept hb c5
  replace c6 := kept hb c6
  replace c7 := kept hb c7
  replace c8 := kept hb c8
  replace c9 := kept hb c9
  replace c10 := kept hb c10
  replace c11 := kept hb c11
  replace c12 := kept hb c12
  clear hb D0 c1 c2 c3 c0
  cases b0 with
  | false =>
    have HG := Lib.hid (show saysB p = false by rw [F1.out]; rfl)
    clear F1
    go_wp2_with fail
    go_ret
    exact ⟨ret_bool HG.out.symm, hB⟩
  | true =>
  have D1 := Lib.hid (CDe.out _ hB)
  clear CDe
  go_wp2_with fail
  refine D1.out.mono ?_
  rintro E y1 ⟨rfl, hb⟩
  have hB1 := step_below hB hb
  clear hB
  have hB := hB1
  clear hB1
  replace c5 := kept hb c5
  replace c6 := kept hb c6
  replace c7 := kept hb c7
  replace c8 := kept hb c8
  replace c9 := kept hb c9
  replace c10 := kept hb c10
  replace c11 := kept hb c11
  replace c12 := kept hb c12
  clear hb D1 c4
  cases b1 with
  | false =>
    have HG := Lib.hid (show saysB p = false by rw [F1.out]; rfl)
    clear F1
    go_wp2_with fail
    go_ret
    exact ⟨ret_bool HG.out.symm, hB⟩
  | true =>
  have D2 := Lib.hid (CAh.out _ hB)
  clear CAh
  go_wp2_with fail
  refine D2.out.mono ?_
  rintro E y2 ⟨rfl, hb⟩
  have hB2 := step_below hB hb
  clear hB
  have hB := hB2
  clear hB2
  replace c6 := kept hb c6
  replace c7 := kept hb c7
  replace c8 := kept hb c8
  replace c9 := kept hb c9
  replace c10 := kept hb c10
  replace c11 := kept hb c11
  replace c12 := kept hb c12
  clear hb D2 c5
  cases b2 with
  | false =>
    have HG := Lib.hid (show saysB p = false by rw [F1.out]; rfl)
    clear F1
    go_wp2_with fail
    go_ret
    exact ⟨ret_bool HG.out.symm, hB⟩
  | true =>
  have D3 := Lib.hid (CAg.out _ hB)
  clear CAg
  go_wp2_with fail
  refine D3.out.mono ?_
  rintro E y3 ⟨rfl, hb⟩
  have hB3 := step_below hB hb
  clear hB
  have hB := hB3
  clear hB3
  replace c7 := kept hb c7
  replace c8 := kept hb c8
  replace c9 := kept hb c9
  replace c10 := kept hb c10
  replace c11 := kept hb c11
  replace c12 := kept hb c12
  clear hb D3 c6
  cases b3 with
  | false =>
    have HG := Lib.hid (show saysB p = false by rw [F1.out]; rfl)
    clear F1
    go_wp2_with fail
    go_ret
    exact ⟨ret_bool HG.out.symm, hB⟩
  | true =>
  have D4 := Lib.hid (CBr.out _ hB)
  clear CBr
  go_wp2_with fail
  refine D4.out.mono ?_
  rintro E y4 ⟨rfl, hb⟩
  have hB4 := step_below hB hb
  clear hB
  have hB := hB4
  clear hB4
  replace c8 := kept hb c8
  replace c9 := kept hb c9
  replace c10 := kept hb c10
  replace c11 := kept hb c11
  replace c12 := kept hb c12
  clear hb D4 c7
  cases b4 with
  | false =>
    have HG := Lib.hid (show saysB p = false by rw [F1.out]; rfl)
    clear F1
    go_wp2_with fail
    go_ret
    exact ⟨ret_bool HG.out.symm, hB⟩
  | true =>
  have D5 := Lib.hid (CRe.out _ hB)
  clear CRe
  go_wp2_with fail
  refine D5.out.mono ?_
  rintro E y5 ⟨rfl, hb⟩
  have hB5 := step_below hB hb
  clear hB
  have hB := hB5
  clear hB5
  replace c9 := kept hb c9
  replace c10 := kept hb c10
  replace c11 := kept hb c11
  replace c12 := kept hb c12
  clear hb D5 c8
  cases b5 with
  | false =>
    have HG := Lib.hid (show saysB p = false by rw [F1.out]; rfl)
    clear F1
    go_wp2_with fail
    go_ret
    exact ⟨ret_bool HG.out.symm, hB⟩
  | true =>
  have D6 := Lib.hid (CPr.out _ hB)
  clear CPr
  go_wp2_with fail
  refine D6.out.mono ?_
  rintro E y6 ⟨rfl, hb⟩
  have hB6 := step_below hB hb
  clear hB
  have hB := hB6
  clear hB6
  replace c10 := kept hb c10
  replace c11 := kept hb c11
  replace c12 := kept hb c12
  clear hb D6 c9
  cases b6 with
  | false =>
    have HG := Lib.hid (show saysB p = false by rw [F1.out]; rfl)
    clear F1
    go_wp2_with fail
    go_ret
    exact ⟨ret_bool HG.out.symm, hB⟩
  | true =>
  have D7 := Lib.hid (CSe.out _ hB)
  clear CSe
  go_wp2_with fail
  refine D7.out.mono ?_
  rintro E y7 ⟨rfl, hb⟩
  have hB7 := step_below hB hb
  clear hB
  have hB := hB7
  clear hB7
  replace c11 := kept hb c11
  replace c12 := kept hb c12
  clear hb D7 c10
  cases b7 with
  | false =>
    have HG := Lib.hid (show saysB p = false by rw [F1.out]; rfl)
    clear F1
    go_wp2_with fail
    go_ret
    exact ⟨ret_bool HG.out.symm, hB⟩
  | true =>
  have D8 := Lib.hid (CLi.out _ hB)
  clear CLi
  go_wp2_with fail
  refine D8.out.mono ?_
  rintro E y8 ⟨rfl, hb⟩
  have hB8 := step_below hB hb
  clear hB
  have hB := hB8
  clear hB8
  replace c12 := kept hb c12
  clear hb D8 c11
  cases b8 with
  | false =>
    have HG := Lib.hid (show saysB p = false by rw [F1.out]; rfl)
    clear F1
    go_wp2_with fail
    go_ret
    exact ⟨ret_bool HG.out.symm, hB⟩
  | true =>
  have F2 := Lib.hid (show saysB p = filesB p.fi by rw [F1.out]; rfl)
  clear F1
  by_cases h30 : 30 < len
  · have HG := Lib.hid (show saysB p = false by rw [F2.out]; unfold filesB; rw [HL.out, decide_eq_false (by omega)]; rfl)
    clear F2
    go_wp2_with fail
    go_ret
    exact ⟨ret_bool HG.out.symm, hB⟩
  have F3 := Lib.hid (show saysB p = p.fi.all keepFileOk by rw [F2.out]; unfold filesB; rw [HL.out, decide_eq_true (by omega)]; rfl)
  clear F2
  go_wp2_with fail
  obtain ⟨y9, hy9⟩ : ∃ y, y = y8 := ⟨_, rfl⟩
  rw [← hy9] at hB c12 ⊢
  clear hy9
  have hz0 := Below.refl y9.heap.size y9
  go_loopw [3] (fun i wr => ∃ k : Nat, k ≤ len ∧ i = .int .i64 k ∧ Hid ((p.fi.take k).all keepFileOk = true) ∧ Below y9.heap.size y9 wr) (fun i _ => len - (intOf i).toNat)
  case atStart => exact ⟨0, Nat.zero_le _, rfl, rfl, hz0⟩
  case round =>
    clear hz0
    obtain ⟨k, hk, rfl, hall, hz⟩ := hrel
    have d12 := kept hz c12
    have hB2 := step_below hB hz
    by_cases hlt : k < len
    · have hne : p.fi ≠ [] := by
        intro e
        have := HL.out
        rw [e] at this
        simp at this
        omega
      obtain ⟨f, ht⟩ : ∃ f, p.fi[k]? = some f := ⟨p.fi[k]'(by have := HL.out; omega), List.getElem?_eq_getElem _⟩
      obtain ⟨b, off, rfl, hi⟩ := HR.out hne
      obtain ⟨f0, f1⟩ := hi k f ht
      replace f0 := kept hB2 f0
      replace f1 := kept hB2 f1
      have HT := Lib.hid ht
      clear hi hne ht
      by_cases hn : 100 < f.n.size
      · have HG := Lib.hid (show saysB p = false by rw [F3.out, all_stop HT.out (by unfold keepFileOk; rw [decide_eq_false (by omega)]; rfl)])
        go_wp2_with fail
        go_ret
        exact ⟨ret_bool HG.out.symm, hB2⟩
      by_cases hd : 500 < f.v.size
      · have HG := Lib.hid (show saysB p = false by rw [F3.out, all_stop HT.out (by unfold keepFileOk; rw [decide_eq_false (by omega : ¬ f.v.size ≤ 500), Bool.and_false])])
        go_wp2_with fail
        go_ret
        exact ⟨ret_bool HG.out.symm, hB2⟩
      go_wp2_with fail
      go_roundw
      case rel => exact ⟨k + 1, by omega, by go_num, Lib.hid (all_take_succ hall.out HT.out (by unfold keepFileOk; rw [decide_eq_true (by omega), decide_eq_true (by omega)]; rfl)), hz⟩
      case measure => simp [intOf]; omega
    · obtain rfl : len = k := by omega
      have HG := Lib.hid (show saysB p = true by rw [F3.out]; have := hall.out; rw [← HL.out] at this; exact all_done this)
      go_wp2_with fail
      go_ret
      exact ⟨ret_bool HG.out.symm, hB2⟩
end Go.Proofs.YtodbbfgkclkpgaaGreatDoor

namespace Go.Proofs.YtodbbfgkclkpgaaGreatDoor
open Go.RowKit

set_option maxHeartbeats 1000000 in
set_option maxRecDepth 100000 in
theorem keepSameFields_calls (v1 v2 : Value) (fs : List Fv) (w : World) (h1 : FieldsAt w v1 fs) (h2 : FieldsAt w v2 fs) : Calls Tryz.prog 39 #[v1, v2] w (BoolIs true w) := by
  obtain ⟨A1, c1, hv1, hc1, hm, hr1⟩ := h1.open
  obtain ⟨A2, c2, hv2, hc2, _, hr2⟩ := h2.open
  subst hv1
  subst hv2
  obtain ⟨len, hlen⟩ : ∃ len, fs.length = len := ⟨_, rfl⟩
  have HL := Lib.hid hlen
  have HR1 := Lib.hid hr1
  have HR2 := Lib.hid hr2
  rw [hlen] at hc1 hc2 hm ⊢
  clear hlen hr1 hr2 h1 h2
  have hne0 : ((len : Int) == (len : Int)) = true := by simp
  go_enter Tryz.func39, Tryz.ntmps39
  go_wp2_with fail
  go_loopw [5] (fun i wr => ∃ k : Nat, k ≤ len ∧ i = .int .i64 k ∧ Below w.heap.size w wr) (fun i _ => len - (intOf i).toNat)
  case atStart => exact ⟨0, Nat.zero_le _, rfl, Below.refl _ _⟩
  case round =>
    obtain ⟨k, hk, rfl, hB⟩ := hrel
    by_cases hlt : k < len
    · have hne : fs ≠ [] := by
        intro e
        have := HL.out
        rw [e] at this
        simp at this
        omega
      obtain ⟨f, ht⟩ : ∃ f, fs[k]? = some f := ⟨fs[k]'(by have := HL.out; omega), List.getElem?_eq_getElem _⟩
      obtain ⟨b1, off1, rfl, hi1⟩ := HR1.out hne
      obtain ⟨b2, off2, rfl, hi2⟩ := HR2.out hne
      obtain ⟨p0, p1⟩ := hi1 k f ht
      obtain ⟨q0, q1⟩ := hi2 k f ht
      replace p0 := kept hB p0
      replace p1 := kept hB p1
      replace q0 := kept hB q0
      replace q1 := kept hB q1
      clear hi1 hi2 hne ht
      obtain ⟨n, u⟩ := f
      dsimp only at p0 p1 q0 q1
      have hk0 : (0 : Int) ≤ (k : Int) := by omega
      have hk1 : (k : Int) < (len : Int) := by omega
      go_wp2_with fail
      go_quiet (fail)
      all_goals
        go_wp2_with fail
        go_roundw
        case rel => exact ⟨k + 1, by omega, by go_num, hB.trans (below_drewN _ _ _)⟩
        case measure => simp [intOf]; omega
    · obtain rfl : k = len := by omega
      go_wp2_with fail
      go_ret
      exact ⟨rfl, hB⟩
end Go.Proofs.YtodbbfgkclkpgaaGreatDoor

namespace Go.Proofs.YtodbbfgkclkpgaaGreatDoor
open Go Go.RowKit

def StepIs (w1 : World) (q a : Nat) (fs : List Fv) (E : Ending) (W' : World) : Prop := E = .returned (.tuple #[]) ∧ FSt w1 q a fs W'
theorem FSt.terms {w1 W : World} {q a : Nat} {fs : List Fv} (h : FSt w1 q a fs W) (n s : ByteArray) (x : Value) (hP : PrintsTo x s W) (hN : fs.length ≤ 1000) :
    Calls Tryz.prog 58 #[.string n, x, .pointer (some ⟨a, 0, none⟩)] W (StepIs w1 q a (fs ++ optF n s)) :=
  (addTerms_calls n s x w1.heap.size q a fs W hP h.l h.b hN h.z.size).mono fun _ _ ⟨he, hl, hk⟩ => ⟨he, h.next hl hk⟩
theorem FSt.add {w1 W : World} {q a : Nat} {fs : List Fv} (h : FSt w1 q a fs W) (n v : ByteArray) (hN : fs.length ≤ 1000) :
    Calls Tryz.prog 57 #[.string n, .string v, .pointer (some ⟨q, 0, none⟩)] W (StepIs w1 q a (fs ++ optF n v)) :=
  (add_calls n v w1.heap.size q fs W h.l hN h.z.size).mono fun _ _ ⟨he, hl, hk⟩ => ⟨he, h.next hl hk⟩
theorem prints_to {W : World} {x : Value} {L : List (List Tv)} (hE : Env W) (hS : EnvS W) (h : AskedAt W x L) (hs : ∀ x ∈ L, ∀ t ∈ x, t.small) (h40 : ∀ x ∈ L, x.length ≤ 1000) (hyes : VP.askedP (tmL L) = true) : PrintsTo x (wholeS L) W :=
  (printT_yes x L W hE hS h hs h40 hyes).mono fun E W' h => ⟨by rw [h.1, if_pos hyes]; rfl, h.2⟩
theorem fst_new {w1 wc : World} {q : Nat} {fs : List Fv} (hl : LBox w1.heap.size q fs wc) (hz : Below w1.heap.size w1 wc) :
    FSt w1 q wc.heap.size fs (wc.alloc (.cells #[.func (.func 57) #[] #[.pointer (some ⟨q, 0, none⟩)]] 90)) := by
  obtain ⟨s, h1, _⟩ := id hl.box
  have := h1.lt
  exact ⟨hl.below (below_alloc _ _), Boxed.new _ _ _, hz.trans ((below_alloc wc _).mono hz.size), by omega⟩
theorem row_new (w : World) (B : Nat) (hB : B ≤ w.heap.size) (a b c d : ByteArray) : (w.alloc (.cells #[.string a, .string b, .string c, .string d] 69)).ownsRow B 69 2 (.slice (some ⟨w.heap.size, 0, none⟩) 2 2) 2 ([⟨a, b⟩, ⟨c, d⟩].flatMap fldC) :=
  ⟨rfl, .inr ⟨w.heap.size, 2, _, rfl, hB, heap_alloc_new w _, Nat.le_refl _, by decide, rfl, rfl⟩⟩
def FourS (w0 : World) (m : Nat) (n : ByteArray) (e : Int) (u r : ByteArray) (W : World) : Prop := W.cell? ⟨m, 0, none⟩ = some (.string n) ∧ W.cell? ⟨m, 1, none⟩ = some (.int .i64 e) ∧ W.cell? ⟨m, 2, none⟩ = some (.string u) ∧ W.cell? ⟨m, 3, none⟩ = some (.string r) ∧ Below w0.heap.size w0 W
theorem fourS_go {w0 : World} {m : Nat} {n : ByteArray} {e : Int} {u r : ByteArray} {W W' : World} (h : FourS w0 m n e u r W) (hb : Below W.heap.size W W') : FourS w0 m n e u r W' := by
  obtain ⟨h0, h1, h2, h3, h4⟩ := h
  exact ⟨kept hb h0, kept hb h1, kept hb h2, kept hb h3, step_below h4 hb⟩

theorem run_store_func {P : Program} {w : World} {a : Addr} {m : Mode} (f : Fn) (x y : Array Value) : (store a (.func f x y) m).run P w = stored P w a (.func f x y) m := run_store P w a _ m rfl
end Go.Proofs.YtodbbfgkclkpgaaGreatDoor

namespace Go.Proofs.YtodbbfgkclkpgaaGreatDoor
open Go Go.RowKit

section
variable {P : Program} (w : World)
theorem run_append_src (t ty : TypeId) (base : Nat) (e : TypeId) (i : TypeInfo) (z : Value) (size bytes : Nat) (ht : P.underlying t = some (.slice e)) (hi : P.info? e = some i) (hz : i.zero = some z)
    (hsize : i.size = size) (hby : i.bytes = bytes) (hzs : z.cells.size = size) (hsz : 0 < size)
    (v : Value) (n : Nat) (xs : List Value) (hown : w.ownsRow base e size v n xs)
    (y : Value) (m : Nat) (news : List Value) (hsrc : SrcIs w y m news) (hl : news.length = m * size) (h1 : ∀ u ∈ news, u.oneCell' = true)
    (h63 : n + m ≤ maxLen) (hbytes : (n + m) * bytes ≤ 140737488355328) (hbase : base ≤ w.heap.size) :
    ∃ v' w', (Builtin.append_ #[t, t] ty #[v, y]).run P w = .ok v' w' ∧ w'.ownsRow base e size v' (n + m) (xs ++ news) ∧ w.grownBy w' v.ownBlock := by
  obtain ⟨A, c, rfl, hc⟩ := hsrc
  cases A with
  | some ad =>
    obtain ⟨v', w', hr, h2, h3, _⟩ := run_append_own (P := P) w base t ty e i z size bytes ht hi hz hsize hby hzs hsz v n xs hown ad m c news hl (fun j u hj => by
      by_cases hm : m = 0
      · subst hm
        rw [Nat.zero_mul] at hl
        rw [List.eq_nil_of_length_eq_zero hl] at hj
        cases hj
      · obtain ⟨b, off, hA, hcc⟩ := hc hm
        obtain rfl := Option.some.inj hA
        rw [Go.WideShapes.add_plain]
        exact hcc j u hj) h1 h63 hbytes hbase
    exact ⟨v', w', hr, h2, h3⟩
  | none =>
    have hm0 : m = 0 := by
      by_cases hm : m = 0
      · exact hm
      · obtain ⟨b, off, hA, _⟩ := hc hm
        cases hA
    subst hm0
    rw [Nat.zero_mul] at hl
    obtain rfl := List.eq_nil_of_length_eq_zero hl
    rcases id hown.2 with ⟨rfl, rfl⟩ | ⟨g, cap, cur, rfl, hbg, hg, hnc, hcm, hcs, htake⟩
    · refine ⟨.slice none 0 0, w, ?_, by rw [List.append_nil]; exact hown, World.grownBy.refl _ _⟩
      simp [Builtin.append_, run_underlying ht, sizeOf, typeInfo, hi, Builtin.lenOf, Builtin.firstCells]
    · have hr := run_append_room_src (P := P) w t t ty e i ht hi g 0 n cap (.slice none 0 c) 0 [] (Src.ofNil w ht c) (by omega) (fun j hj => by cases hj) (fun j hj => by cases hj)
      rw [setCells_nil] at hr
      exact ⟨_, w, hr, by rw [List.append_nil]; exact hown, World.grownBy.refl _ _⟩

theorem step_append_src {ops : Array Oper} {o : Oper} {a : Act} {K : Act → World → Prop} {Q : Exit → Act → World → Prop} {E : Prop} (hgd : o.guard = none) (s x : Operand) (t : TypeId)
    (ho : o.op = .call { callee := .builtin .append, args := #[s, x], argTypes := #[t, t] })
    (base : Nat) (e : TypeId) (i : TypeInfo) (z : Value) (size bytes : Nat) (ht : P.underlying t = some (.slice e)) (hi : P.info? e = some i) (hz : i.zero = some z)
    (hsize : i.size = size) (hby : i.bytes = bytes) (hzs : z.cells.size = size) (hsz : 0 < size)
    (v : Value) (n : Nat) (xs : List Value) (hs : a.eval s = v) (hown : w.ownsRow base e size v n xs)
    (y : Value) (m : Nat) (news : List Value) (hx : a.eval x = y) (hsrc : SrcIs w y m news) (hl : news.length = m * size) (h1 : ∀ u ∈ news, u.oneCell' = true)
    (h63 : n + m ≤ maxLen) (hbytes : (n + m) * bytes ≤ 140737488355328) (hbase : base ≤ w.heap.size)
    (h : ∀ v' w', w'.ownsRow base e size v' (n + m) (xs ++ news) → w.grownBy w' v.ownBlock → K (a.put o.dst v') w') :
    if Region.wanted o (yielded ops a.tmps) = true then Oper.wp P o a w K Q else E := by
  have hw : Region.wanted o (yielded ops a.tmps) = true := by simp [Region.wanted, hgd]
  rw [if_pos hw]
  obtain ⟨v', w', hr, h2, h3⟩ := run_append_src (P := P) w t o.type base e i z size bytes ht hi hz hsize hby hzs hsz v n xs hown y m news hsrc hl h1 h63 hbytes hbase
  unfold Oper.wp execOp
  simp only [ho, resolve, invoke, builtin, Sem.run_bind, Sem.run_pure, Result.andThen_ok, List.map_toArray, List.map_cons, List.map_nil, hs, hx, hr]
  exact h v' w' h2 h3
end
end Go.Proofs.YtodbbfgkclkpgaaGreatDoor

namespace Go.Proofs.YtodbbfgkclkpgaaGreatDoor
open Go Go.RowKit

theorem row_one (W : World) : (W.alloc (.cells #[.string ⟨#[]⟩] 9)).ownsRow W.heap.size 9 1 (.slice (some ⟨W.heap.size, 0, none⟩) 1 1) 1 [.string ⟨#[]⟩] :=
  ⟨rfl, .inr ⟨W.heap.size, 1, _, rfl, Nat.le_refl _, heap_alloc_new W _, Nat.le_refl _, by decide, rfl, rfl⟩⟩

theorem strs_one (ss : List ByteArray) : ∀ u ∈ ss.flatMap strC, u.oneCell' = true := by
  intro u hu
  rw [flat_strs] at hu
  obtain ⟨s, _, rfl⟩ := List.mem_map.1 hu
  rfl
theorem strs_len (ss : List ByteArray) : (ss.flatMap strC).length = ss.length * 1 := by rw [flat_strs, List.length_map, Nat.mul_one]

theorem linesS_len {ss : List ByteArray} (h : ss.length ≤ 20 ∧ ∀ s ∈ ss, s.size ≤ 60) : (linesS ss).data.toList.length ≤ 2000 := by
  obtain ⟨h1, h2⟩ := h
  have := linesOf_len 60 (ss.map (·.data.toList)) (fun x hx => by
    obtain ⟨s, hs, rfl⟩ := List.mem_map.1 hx
    rw [← size_eq_length]; exact h2 s hs)
  rw [List.length_map] at this
  show (VP.linesOf (ss.map (·.data.toList))).length ≤ 2000
  omega
theorem joinLines (W : World) (base : Nat) (v : Value) (ss : List ByteArray) (h : W.ownsRow base 9 1 v (1 + ss.length) ([.string ⟨#[]⟩] ++ ss.flatMap strC)) (hs : ss.length ≤ 20 ∧ ∀ s ∈ ss, s.size ≤ 60) :
    Calls Tryz.prog 61 #[v, .string ⟨#[10]⟩] W fun E W' => E = .returned (.string (linesS ss)) ∧ Below W.heap.size W W' := by
  have h' : W.ownsRow base 9 1 v (1 + ss.length) (((⟨#[]⟩ : ByteArray) :: ss).map Value.string) := by rw [flat_strs] at h; exact h
  have e : Lib.join (((⟨#[]⟩ : ByteArray) :: ss).map (·.data.toList)) (⟨#[10]⟩ : ByteArray).data.toList = (linesS ss).data.toList := lines_join ss
  refine (call_join W base v _ ((⟨#[]⟩ : ByteArray) :: ss) ⟨#[10]⟩ h' (by omega) (by rw [e]; have := linesS_len hs; omega)).mono fun E W' h => ⟨?_, h.2⟩
  rw [h.1, e, mk_data]

/-- behind the append: all is as it was -/
theorem FSt.appended {w1 W W' : World} {q a : Nat} {fs : List Fv} (h : FSt w1 q a fs W) (hg : (W.alloc (.cells #[.string ⟨#[]⟩] 9)).grownBy W' (Value.slice (some ⟨W.heap.size, 0, none⟩) 1 1).ownBlock) : FSt w1 q a fs W' := by
  refine h.below ((below_alloc W _).grown hg (by rw [World.size_alloc]; omega) (fun k e => ?_))
  have e2 : W.heap.size = k := by simpa [Value.ownBlock] using e
  omega
theorem FSt.run {w1 W : World} {q a : Nat} {fs : List Fv} (h : FSt w1 q a fs W) : W.cell? ⟨a, 0, none⟩ = some (.func (.func 57) #[] #[.pointer (some ⟨q, 0, none⟩)]) :=
  (show Boxed W a 90 (.func (.func 57) #[] #[.pointer (some ⟨q, 0, none⟩)]) from h.b).cell
end Go.Proofs.YtodbbfgkclkpgaaGreatDoor
