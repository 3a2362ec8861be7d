/- keep.flat, keep.terms: is what is asked for short enough to be held. · stevedorekeep.texts, stevedorekeep.says: is a package short enough to be held. · The shelf's Drop. -/
import Derived.Test.YtpbbhjifgaeklaaGreatDoorCSK5
import Derived.Deep.QuietTactic
import Derived.BigQuiet
import Derived.Deep.RegionHeld3
import Derived.Test.YtpbbhjifgaeklaaGreatDoorCSK16
import Derived.Test.YtpbbhjifgaeklaaGreatDoorCSK17
namespace Go.Proofs.YtpbbhjifgaeklaaGreatDoor
open Go.RowKit

set_option maxHeartbeats 1000000 in
set_option maxRecDepth 100000 in
theorem keepFlat_calls (v : Value) (ts : List Tv) (w : World) (h : TermsAt w v ts) : Calls Tryz.prog 115 #[v] w (BoolIs (flatB ts) w) := by
  obtain ⟨A, c, rfl, hc, hm, hr⟩ := h
  obtain ⟨len, hlen⟩ : ∃ len, ts.length = len := ⟨_, rfl⟩
  have HL := Lib.hid hlen
  rw [hlen] at hc hm ⊢
  clear hlen
  by_cases h40 : 40 < len
  · have F := Lib.hid (show flatB ts = false by unfold flatB; rw [HL.out]; simp; omega)
    clear hr
    go_enter Tryz.func115, Tryz.ntmps115
    go_wp2
    go_ret
    exact ⟨ret_bool F.out.symm, Below.refl _ _⟩
  · have F := Lib.hid (show flatB ts = ts.all flatT by unfold flatB; rw [HL.out, decide_eq_true (by omega)]; rfl)
    have HR := Lib.hid hr
    clear hr
    go_enter Tryz.func115, Tryz.ntmps115
    go_wp2_with fail
    go_loopw [3] (fun i wr => ∃ k : Nat, k ≤ len ∧ i = .int .i64 k ∧ Hid ((ts.take k).all flatT = true) ∧ Below w.heap.size w wr) (fun i _ => len - (intOf i).toNat)
    case atStart => exact ⟨0, Nat.zero_le _, rfl, rfl, Below.refl _ _⟩
    case round =>
      obtain ⟨k, hk, rfl, hall, hB⟩ := hrel
      by_cases hlt : k < len
      · have hne : ts ≠ [] := by
          intro e
          have := HL.out
          rw [e] at this
          simp at this
          omega
        obtain ⟨t, ht⟩ : ∃ t, ts[k]? = some t := ⟨ts[k]'(by have := HL.out; omega), List.getElem?_eq_getElem _⟩
        obtain ⟨b, off, rfl, hi⟩ := HR.out hne
        obtain ⟨hT0, hok⟩ := hi k t ht
        clear hi hne
        have hT := hT0.below hB
        obtain ⟨c0, c1, c2, c3, c4⟩ := hT
        have HT := Lib.hid ht
        clear ht hT0 hok
        by_cases hn : 60 < t.n.size
        · have HF := Lib.hid (show flatT t = false by unfold flatT; rw [decide_eq_false (by omega)]; rfl)
          go_wp2_with fail
          go_ret
          exact ⟨ret_bool (by rw [F.out, all_stop HT.out HF.out]), hB⟩
        · have HF := Lib.hid (show flatT t = shortB t.u t.r by unfold flatT; rw [decide_eq_true (by omega)]; rfl)
          go_wp2_with fail
          refine (short_calls t.e t.u t.r _).mono ?_
          rintro E w1 ⟨rfl, hb⟩
          have hB := step_below hB hb
          clear hb c0 c1 c2 c3 c4
          have hs : shortB t.u t.r = true ∨ shortB t.u t.r = false := by cases shortB t.u t.r <;> simp
          rcases hs with hs | hs
          · have HS := Lib.hid hs
            rw [hs]
            clear hs
            go_wp2_with fail
            go_roundw
            case rel => exact ⟨k + 1, by omega, by go_num, Lib.hid (all_take_succ hall.out HT.out (by rw [HF.out, HS.out])), hB⟩
            case measure => simp [intOf]; omega
          · have HS := Lib.hid hs
            rw [hs]
            clear hs
            go_wp2_with fail
            go_ret
            exact ⟨ret_bool (by rw [F.out, all_stop HT.out (by rw [HF.out, HS.out])]), hB⟩
      · obtain rfl : k = len := by omega
        go_wp2_with fail
        go_ret
        exact ⟨ret_bool (by rw [F.out]; have := hall.out; rw [← HL.out] at this; exact (all_done this).symm), hB⟩

set_option maxHeartbeats 1000000 in
set_option maxRecDepth 100000 in
theorem keepTerms_calls (v : Value) (L : List (List Tv)) (w : World) (h : AskedAt w v L) : Calls Tryz.prog 114 #[v] w (BoolIs (termsB L) w) := by
  obtain ⟨A, c, rfl, hc, hm, hr⟩ := h
  obtain ⟨len, hlen⟩ : ∃ len, L.length = len := ⟨_, rfl⟩
  have HL := Lib.hid hlen
  rw [hlen] at hc hm ⊢
  clear hlen
  by_cases h40 : 40 < len
  · have F := Lib.hid (show termsB L = false by unfold termsB; rw [HL.out]; simp; omega)
    clear hr
    go_enter Tryz.func114, Tryz.ntmps114
    go_wp2
    go_ret
    exact ⟨ret_bool F.out.symm, Below.refl _ _⟩
  · have F := Lib.hid (show termsB L = L.all flatB by unfold termsB; rw [HL.out, decide_eq_true (by omega)]; rfl)
    have HR := Lib.hid hr
    clear hr
    go_enter Tryz.func114, Tryz.ntmps114
    go_wp2_with fail
    go_loopw [3] (fun i wr => ∃ k : Nat, k ≤ len ∧ i = .int .i64 k ∧ Hid ((L.take k).all flatB = true) ∧ Below w.heap.size w wr) (fun i _ => len - (intOf i).toNat)
    case atStart => exact ⟨0, Nat.zero_le _, rfl, rfl, Below.refl _ _⟩
    case round =>
      obtain ⟨k, hk, rfl, hall, hB⟩ := hrel
      by_cases hlt : k < len
      · have hne : L ≠ [] := by
          intro e
          have := HL.out
          rw [e] at this
          simp at this
          omega
        obtain ⟨x, hx⟩ : ∃ x, L[k]? = some x := ⟨L[k]'(by have := HL.out; omega), List.getElem?_eq_getElem _⟩
        obtain ⟨b, off, rfl, hi⟩ := HR.out hne
        obtain ⟨vx, hc0, hT⟩ := hi k x hx
        clear hi hne
        have hT1 := Lib.hid (hT.below hB)
        have c0 := kept hB hc0
        have HT := Lib.hid hx
        clear hx hc0 hT
        go_wp2_with fail
        refine (keepFlat_calls vx x _ hT1.out).mono ?_
        rintro E w1 ⟨rfl, hb⟩
        have hB := step_below hB hb
        clear hb c0
        have hs : flatB x = true ∨ flatB x = false := by cases flatB x <;> simp
        rcases hs with hs | hs
        · have HS := Lib.hid hs
          rw [hs]
          clear hs
          go_wp2_with fail
          go_roundw
          case rel => exact ⟨k + 1, by omega, by go_num, Lib.hid (all_take_succ hall.out HT.out HS.out), hB⟩
          case measure => simp [intOf]; omega
        · have HS := Lib.hid hs
          rw [hs]
          clear hs
          go_wp2_with fail
          go_ret
          exact ⟨ret_bool (by rw [F.out, all_stop HT.out HS.out]), hB⟩
      · obtain rfl : k = len := by omega
        go_wp2_with fail
        go_ret
        exact ⟨ret_bool (by rw [F.out]; have := hall.out; rw [← HL.out] at this; exact (all_done this).symm), hB⟩
end Go.Proofs.YtpbbhjifgaeklaaGreatDoor

namespace Go.Proofs.YtpbbhjifgaeklaaGreatDoor
open Go Go.RowKit

set_option maxHeartbeats 1000000 in
set_option maxRecDepth 100000 in
theorem keepTexts_calls (v : Value) (ss : List ByteArray) (w : World) (h : StrsAt w v ss) : Calls Tryz.prog 10 #[v] w (BoolIs (textsB ss) w) := by
  obtain ⟨A, c, hv, hc, hm, hr⟩ := h.open
  subst hv
  obtain ⟨len, hlen⟩ : ∃ len, ss.length = len := ⟨_, rfl⟩
  have HL := Lib.hid hlen
  have HR := Lib.hid hr
  rw [hlen] at hc hm ⊢
  clear hlen hr h
  by_cases h40 : 40 < len
  · have F := Lib.hid (show textsB ss = false by unfold textsB; rw [HL.out]; simp; omega)
    go_enter Tryz.func10, Tryz.ntmps10
    go_wp2
    go_ret
    exact ⟨ret_bool F.out.symm, Below.refl _ _⟩
  · have F := Lib.hid (show textsB ss = ss.all (fun s => decide (s.size ≤ 100)) by unfold textsB; rw [HL.out, decide_eq_true (by omega)]; rfl)
    go_enter Tryz.func10, Tryz.ntmps10
    go_wp2_with fail
    go_loopw [3] (fun i wr => ∃ k : Nat, k ≤ len ∧ i = .int .i64 k ∧ Hid ((ss.take k).all (fun s => decide (s.size ≤ 100)) = true) ∧ Below w.heap.size w wr) (fun i _ => len - (intOf i).toNat)
    case atStart => exact ⟨0, Nat.zero_le _, rfl, rfl, Below.refl _ _⟩
    case round =>
      obtain ⟨k, hk, rfl, hall, hB⟩ := hrel
      by_cases hlt : k < len
      · have hne : ss ≠ [] := by
          intro e
          have := HL.out
          rw [e] at this
          simp at this
          omega
        obtain ⟨s, ht⟩ : ∃ s, ss[k]? = some s := ⟨ss[k]'(by have := HL.out; omega), List.getElem?_eq_getElem _⟩
        obtain ⟨b, off, rfl, hi⟩ := HR.out hne
        have c0 := kept hB (hi k s ht)
        have HT := Lib.hid ht
        clear hi hne ht
        by_cases hn : 100 < s.size
        · have HF := Lib.hid (show textsB ss = false by rw [F.out, all_stop HT.out (decide_eq_false (by omega))])
          go_wp2_with fail
          go_ret
          exact ⟨ret_bool HF.out.symm, hB⟩
        · go_wp2_with fail
          go_roundw
          case rel => exact ⟨k + 1, by omega, by go_num, Lib.hid (all_take_succ hall.out HT.out (decide_eq_true (by omega))), hB⟩
          case measure => simp [intOf]; omega
      · obtain rfl : k = len := by omega
        go_wp2_with fail
        go_ret
        exact ⟨ret_bool (by rw [F.out]; have := hall.out; rw [← HL.out] at this; exact (all_done this).symm), hB⟩

def keepFileOk (f : Fv) : Bool := decide (f.n.size ≤ 100) && decide (f.v.size ≤ 500)

set_option maxHeartbeats 6000000 in
set_option maxRecDepth 100000 in
theorem keepSays_calls (v : Value) (p : Pv) (w : World) (h : PackAt w v p) : Calls Tryz.prog 40 #[v] w (BoolIs (saysB p) w) := by
  obtain ⟨v1, v2, v3, v4, v5, v6, v7, v8, v9, rfl, h1, h2, h3, h4, h5, h6, h7, h8, h9, _, _⟩ := h
  have CSh := Lib.hid (fun (W : World) (hb : Below w.heap.size w W) => short_calls p.e p.u p.r W)
  have CDe := Lib.hid (fun (W : World) (hb : Below w.heap.size w W) => keepTerms_calls v1 p.dep W (h1.below hb))
  have CAh := Lib.hid (fun (W : World) (hb : Below w.heap.size w W) => keepTerms_calls v2 p.ahead W (h2.below hb))
  have CAg := Lib.hid (fun (W : World) (hb : Below w.heap.size w W) => keepFlat_calls v3 p.ag W (h3.below hb))
  have CBr := Lib.hid (fun (W : World) (hb : Below w.heap.size w W) => keepFlat_calls v4 p.br W (h4.below hb))
  have CRe := Lib.hid (fun (W : World) (hb : Below w.heap.size w W) => keepFlat_calls v5 p.re W (h5.below hb))
  have CPr := Lib.hid (fun (W : World) (hb : Below w.heap.size w W) => keepFlat_calls v6 p.pr W (h6.below hb))
  have CSe := Lib.hid (fun (W : World) (hb : Below w.heap.size w W) => keepTexts_calls v7 p.se W (h7.below hb))
  have CLi := Lib.hid (fun (W : World) (hb : Below w.heap.size w W) => keepTexts_calls v8 p.li W (h8.below hb))
  have F := Lib.hid (show saysB p = (decide (p.n.size ≤ 60) && (shortB p.u p.r && (termsB p.dep && (termsB p.ahead && (flatB p.ag && (flatB p.br && (flatB p.re && (flatB p.pr && (textsB p.se && (textsB p.li && filesB p.fi)))))))))) from rfl)
  obtain ⟨b0, hb0⟩ : ∃ x, shortB p.u p.r = x := ⟨_, rfl⟩
  rw [hb0] at CSh F
  obtain ⟨b1, hb1⟩ : ∃ x, termsB p.dep = x := ⟨_, rfl⟩
  rw [hb1] at CDe F
  obtain ⟨b2, hb2⟩ : ∃ x, termsB p.ahead = x := ⟨_, rfl⟩
  rw [hb2] at CAh F
  obtain ⟨b3, hb3⟩ : ∃ x, flatB p.ag = x := ⟨_, rfl⟩
  rw [hb3] at CAg F
  obtain ⟨b4, hb4⟩ : ∃ x, flatB p.br = x := ⟨_, rfl⟩
  rw [hb4] at CBr F
  obtain ⟨b5, hb5⟩ : ∃ x, flatB p.re = x := ⟨_, rfl⟩
  rw [hb5] at CRe F
  obtain ⟨b6, hb6⟩ : ∃ x, flatB p.pr = x := ⟨_, rfl⟩
  rw [hb6] at CPr F
  obtain ⟨b7, hb7⟩ : ∃ x, textsB p.se = x := ⟨_, rfl⟩
  rw [hb7] at CSe F
  obtain ⟨b8, hb8⟩ : ∃ x, textsB p.li = x := ⟨_, rfl⟩
  rw [hb8] at CLi F
  clear hb0 hb1 hb2 hb3 hb4 hb5 hb6 hb7 hb8 h1 h2 h3 h4 h5 h6 h7 h8
  have X0 := packBox_new w p v1 v2 v3 v4 v5 v6 v7 v8 v9 67
  have hB0 := below_alloc w (.cells #[.string p.n, .int .i64 p.e, .string p.u, .string p.r, v1, v2, v3, v4, v5, v6, v7, v8, v9] 67)
  obtain ⟨A, c, hv9, hc, hm, hr⟩ := h9.open
  subst hv9
  obtain ⟨len, hlen⟩ : ∃ len, p.fi.length = len := ⟨_, rfl⟩
  have HL := Lib.hid hlen
  have HR := Lib.hid hr
  rw [hlen] at hc hm X0 hB0 ⊢
  clear hlen hr h9
  obtain ⟨c0, c1, c2, c3, c4, c5, c6, c7, c8, c9, c10, c11, c12⟩ := X0
  go_enter Tryz.func40, Tryz.ntmps40
  go_upto_region 1 with fail
  obtain ⟨m, hmm⟩ : ∃ m, w.heap.size = m := ⟨_, rfl⟩
  obtain ⟨W0, hW0⟩ : ∃ x, x = w.alloc (.cells #[.string p.n, .int .i64 p.e, .string p.u, .string p.r, v1, v2, v3, v4, v5, v6, v7, v8, .slice A len c] 67) := ⟨_, rfl⟩
  rw [← hW0] at hB0 c0 c1 c2 c3 c4 c5 c6 c7 c8 c9 c10 c11 c12 ⊢
  rw [hmm] at c0 c1 c2 c3 c4 c5 c6 c7 c8 c9 c10 c11 c12
  (try rw [hmm])
  have hB := hB0
  clear hW0 hmm hB0
  by_cases h60 : 60 < p.n.size
  · have HG := Lib.hid (show saysB p = false by rw [F.out, decide_eq_false (by omega : ¬ p.n.size ≤ 60)]; rfl)
    clear F CSh CDe CAh CAg CBr CRe CPr CSe CLi c1 c2 c3 c4 c5 c6 c7 c8 c9 c10 c11 c12
    go_wp2_with fail
    go_ret
    exact ⟨ret_bool HG.out.symm, hB⟩
  have F1 := Lib.hid (F.out.trans (by rw [decide_eq_true (by omega : p.n.size ≤ 60), Bool.true_and]))
  clear F
  have D0 := Lib.hid (CSh.out _ hB)
  clear CSh
  go_wp2_with fail
  refine D0.out.mono ?_
  rintro E y0 ⟨rfl, hb⟩
  have hB0 := step_below hB hb
  clear hB
  have hB := hB0
  clear hB0
  replace c4 := kept hb c4
  replace c5 := kept hb c5
  replace c6 := kept hb c6
  replace c7 := kept hb c7
  replace c8 := kept hb c8
  replace c9 := kept hb c9
  replace c10 := kept hb c10
  replace c11 := kept hb c11
  replace c12 := kept hb c12
  clear hb D0 c1 c2 c3 c0
  cases b0 with
  | false =>
    have HG := Lib.hid (show saysB p = false by rw [F1.out]; rfl)
    clear F1
    go_wp2_with fail
    go_ret
    exact ⟨ret_bool HG.out.symm, hB⟩
  | true =>
  have D1 := Lib.hid (CDe.out _ hB)
  clear CDe
  go_wp2_with fail
  refine D1.out.mono ?_
  rintro E y1 ⟨rfl, hb⟩
  have hB1 := step_below hB hb
  clear hB
  have hB := hB1
  clear hB1
  replace c5 := kept hb c5
  replace c6 := kept hb c6
  replace c7 := kept hb c7
  replace c8 := kept hb c8
  replace c9 := kept hb c9
  replace c10 := kept hb c10
  replace c11 := kept hb c11
  replace c12 := kept hb c12
  clear hb D1 c4
  cases b1 with
  | false =>
    have HG := Lib.hid (show saysB p = false by rw [F1.out]; rfl)
    clear F1
    go_wp2_with fail
    go_ret
    exact ⟨ret_bool HG.out.symm, hB⟩
  | true =>
  have D2 := Lib.hid (CAh.out _ hB)
  clear CAh
  go_wp2_with fail
  refine D2.out.mono ?_
  rintro E y2 ⟨rfl, hb⟩
  have hB2 := step_below hB hb
  clear hB
  have hB := hB2
  clear hB2
  replace c6 := kept hb c6
  replace c7 := kept hb c7
  replace c8 := kept hb c8
  replace c9 := kept hb c9
  replace c10 := kept hb c10
  replace c11 := kept hb c11
  replace c12 := kept hb c12
  clear hb D2 c5
  cases b2 with
  | false =>
    have HG := Lib.hid (show saysB p = false by rw [F1.out]; rfl)
    clear F1
    go_wp2_with fail
    go_ret
    exact ⟨ret_bool HG.out.symm, hB⟩
  | true =>
  have D3 := Lib.hid (CAg.out _ hB)
  clear CAg
  go_wp2_with fail
  refine D3.out.mono ?_
  rintro E y3 ⟨rfl, hb⟩
  have hB3 := step_below hB hb
  clear hB
  have hB := hB3
  clear hB3
  replace c7 := kept hb c7
  replace c8 := kept hb c8
  replace c9 := kept hb c9
  replace c10 := kept hb c10
  replace c11 := kept hb c11
  replace c12 := kept hb c12
  clear hb D3 c6
  cases b3 with
  | false =>
    have HG := Lib.hid (show saysB p = false by rw [F1.out]; rfl)
    clear F1
    go_wp2_with fail
    go_ret
    exact ⟨ret_bool HG.out.symm, hB⟩
  | true =>
  have D4 := Lib.hid (CBr.out _ hB)
  clear CBr
  go_wp2_with fail
  refine D4.out.mono ?_
  rintro E y4 ⟨rfl, hb⟩
  have hB4 := step_below hB hb
  clear hB
  have hB := hB4
  clear hB4
  replace c8 := kept hb c8
  replace c9 := kept hb c9
  replace c10 := kept hb c10
  replace c11 := kept hb c11
  replace c12 := kept hb c12
  clear hb D4 c7
  cases b4 with
  | false =>
    have HG := Lib.hid (show saysB p = false by rw [F1.out]; rfl)
    clear F1
    go_wp2_with fail
    go_ret
    exact ⟨ret_bool HG.out.symm, hB⟩
  | true =>
  have D5 := Lib.hid (CRe.out _ hB)
  clear CRe
  go_wp2_with fail
  refine D5.out.mono ?_
  rintro E y5 ⟨rfl, hb⟩
  have hB5 := step_below hB hb
  clear hB
  have hB := hB5
  clear hB5
  replace c9 := kept hb c9
  replace c10 := kept hb c10
  replace c11 := kept hb c11
  replace c12 := kept hb c12
  clear hb D5 c8
  cases b5 with
  | false =>
    have HG := Lib.hid (show saysB p = false by rw [F1.out]; rfl)
    clear F1
    go_wp2_with fail
    go_ret
    exact ⟨ret_bool HG.out.symm, hB⟩
  | true =>
  have D6 := Lib.hid (CPr.out _ hB)
  clear CPr
  go_wp2_with fail
  refine D6.out.mono ?_
  rintro E y6 ⟨rfl, hb⟩
  have hB6 := step_below hB hb
  clear hB
  have hB := hB6
  clear hB6
  replace c10 := kept hb c10
  replace c11 := kept hb c11
  replace c12 := kept hb c12
  clear hb D6 c9
  cases b6 with
  | false =>
    have HG := Lib.hid (show saysB p = false by rw [F1.out]; rfl)
    clear F1
    go_wp2_with fail
    go_ret
    exact ⟨ret_bool HG.out.symm, hB⟩
  | true =>
  have D7 := Lib.hid (CSe.out _ hB)
  clear CSe
  go_wp2_with fail
  refine D7.out.mono ?_
  rintro E y7 ⟨rfl, hb⟩
  have hB7 := step_below hB hb
  clear hB
  have hB := hB7
  clear hB7
  replace c11 := kept hb c11
  replace c12 := kept hb c12
  clear hb D7 c10
  cases b7 with
  | false =>
    have HG := Lib.hid (show saysB p = false by rw [F1.out]; rfl)
    clear F1
    go_wp2_with fail
    go_ret
    exact ⟨ret_bool HG.out.symm, hB⟩
  | true =>
  have D8 := Lib.hid (CLi.out _ hB)
  clear CLi
  go_wp2_with fail
  refine D8.out.mono ?_
  rintro E y8 ⟨rfl, hb⟩
  have hB8 := step_below hB hb
  clear hB
  have hB := hB8
  clear hB8
  replace c12 := kept hb c12
  clear hb D8 c11
  cases b8 with
  | false =>
    have HG := Lib.hid (show saysB p = false by rw [F1.out]; rfl)
    clear F1
    go_wp2_with fail
    go_ret
    exact ⟨ret_bool HG.out.symm, hB⟩
  | true =>
  have F2 := Lib.hid (show saysB p = filesB p.fi by rw [F1.out]; rfl)
  clear F1
  by_cases h30 : 30 < len
  · have HG := Lib.hid (show saysB p = false by rw [F2.out]; unfold filesB; rw [HL.out, decide_eq_false (by omega)]; rfl)
    clear F2
    go_wp2_with fail
    go_ret
    exact ⟨ret_bool HG.out.symm, hB⟩
  have F3 := Lib.hid (show saysB p = p.fi.all keepFileOk by rw [F2.out]; unfold filesB; rw [HL.out, decide_eq_true (by omega)]; rfl)
  clear F2
  go_wp2_with fail
  obtain ⟨y9, hy9⟩ : ∃ y, y = y8 := ⟨_, rfl⟩
  rw [← hy9] at hB c12 ⊢
  clear hy9
  have hz0 := Below.refl y9.heap.size y9
  go_loopw [3] (fun i wr => ∃ k : Nat, k ≤ len ∧ i = .int .i64 k ∧ Hid ((p.fi.take k).all keepFileOk = true) ∧ Below y9.heap.size y9 wr) (fun i _ => len - (intOf i).toNat)
  case atStart => exact ⟨0, Nat.zero_le _, rfl, rfl, hz0⟩
  case round =>
    clear hz0
    obtain ⟨k, hk, rfl, hall, hz⟩ := hrel
    have d12 := kept hz c12
    have hB2 := step_below hB hz
    by_cases hlt : k < len
    · have hne : p.fi ≠ [] := by
        intro e
        have := HL.out
        rw [e] at this
        simp at this
        omega
      obtain ⟨f, ht⟩ : ∃ f, p.fi[k]? = some f := ⟨p.fi[k]'(by have := HL.out; omega), List.getElem?_eq_getElem _⟩
      obtain ⟨b, off, rfl, hi⟩ := HR.out hne
      obtain ⟨f0, f1⟩ := hi k f ht
      replace f0 := kept hB2 f0
      replace f1 := kept hB2 f1
      have HT := Lib.hid ht
      clear hi hne ht
      by_cases hn : 100 < f.n.size
      · have HG := Lib.hid (show saysB p = false by rw [F3.out, all_stop HT.out (by unfold keepFileOk; rw [decide_eq_false (by omega)]; rfl)])
        go_wp2_with fail
        go_ret
        exact ⟨ret_bool HG.out.symm, hB2⟩
      by_cases hd : 500 < f.v.size
      · have HG := Lib.hid (show saysB p = false by rw [F3.out, all_stop HT.out (by unfold keepFileOk; rw [decide_eq_false (by omega : ¬ f.v.size ≤ 500), Bool.and_false])])
        go_wp2_with fail
        go_ret
        exact ⟨ret_bool HG.out.symm, hB2⟩
      go_wp2_with fail
      go_roundw
      case rel => exact ⟨k + 1, by omega, by go_num, Lib.hid (all_take_succ hall.out HT.out (by unfold keepFileOk; rw [decide_eq_true (by omega), decide_eq_true (by omega)]; rfl)), hz⟩
      case measure => simp [intOf]; omega
    · obtain rfl : len = k := by omega
      have HG := Lib.hid (show saysB p = true by rw [F3.out]; have := hall.out; rw [← HL.out] at this; exact all_done this)
      go_wp2_with fail
      go_ret
      exact ⟨ret_bool HG.out.symm, hB2⟩
end Go.Proofs.YtpbbhjifgaeklaaGreatDoor

namespace Go.Proofs.YtpbbhjifgaeklaaGreatDoor
open Go Go.RowKit Go.Maps

theorem RowD.slice {d B : Nat} {W : World} {v : Value} {L : List ByteArray} (h : RowD d B W v L) : ∃ A n c, v = .slice A n c := by
  rcases h.1.2 with ⟨rfl, _⟩ | ⟨g, cap, cur, rfl, _⟩
  · exact ⟨_, _, _, rfl⟩
  · exact ⟨_, _, _, rfl⟩
theorem RowOf.blk {B : Nat} {W : World} {v : Value} {L : List ByteArray} (h : RowOf B W v L) {k : Nat} {x : ByteArray} (hx : L[k]? = some x) : ∃ g, v = .slice (some ⟨g, 0, none⟩) L.length L.length ∧ B ≤ g ∧ Blk 9 W g (L.map Value.string).toArray := by
  rcases h with ⟨rfl, _⟩ | h
  · cases hx
  · exact h
/-- the paths' row stays: the addresses, and what lies there -/
def RowQ (d n m : Nat) (A : Option Addr) (L : List ByteArray) (W : World) : Prop := ∀ (k : Nat) (x : ByteArray), L[k]? = some x → ∃ g, A = some ⟨g, 0, none⟩ ∧ Blk 9 W g (L.map Value.string).toArray ∧ ¬ foot W d g ∧ n ≤ g ∧ g < m
theorem RowQ.off {d n m : Nat} {A : Option Addr} {L : List ByteArray} {W W' : World} (h : RowQ d n m A L W) (ho : Off d W W') : RowQ d n m A L W' := fun k x hx => by
  obtain ⟨g, hA, hb, hf, h1, h2⟩ := h k x hx
  exact ⟨g, hA, hb.off ho hf, not_foot ho hb.lt hf, h1, h2⟩
theorem RowQ.grown {d n m : Nat} {A : Option Addr} {L : List ByteArray} {W W' : World} {r : Option Nat} (h : RowQ d n m A L W) (hg : W.grownBy W' r) (hd : d < W.heap.size) (hr : ∀ g, r = some g → m ≤ g ∧ ¬ foot W d g) : RowQ d n m A L W' := fun k x hx => by
  obtain ⟨g, hA, hb, hf, h1, h2⟩ := h k x hx
  refine ⟨g, hA, hb.grown hg fun e => ?_, fun hf' => hf ((foot_grown hg hd fun g e => (hr g e).2).1 hf'), h1, h2⟩
  have := (hr g e).1
  omega
end Go.Proofs.YtpbbhjifgaeklaaGreatDoor
