/- record.Fields, and the reference's, of every package. · law.flat, law.terms: is what is asked for short enough to be held. · law.sameTerms, law.sameAsked: of the same that was asked for they say so. -/
import Derived.Test.YtodbbfgkclkpgaaGreatDoorAW35
import Derived.Test.YtodbbfgkclkpgaaGreatDoorAW42
import Derived.Test.YtodbbfgkclkpgaaGreatDoorAW15
import Derived.Deep.QuietTactic
import Derived.BigQuiet
import Derived.Deep.RegionHeld3
namespace Go.Proofs.YtodbbfgkclkpgaaGreatDoor
open Go Go.RowKit

set_option maxRecDepth 100000 in
theorem fields_no (v : Value) (p : Pv) (w : World) (hE : Env w) (h : PackAt w v p) (hf : p.Fit) (hy : saysOk p = false) : Calls Tryz.prog 13 #[v] w (RecFieldsIs p w) := by
  obtain ⟨v1, v2, v3, v4, v5, v6, v7, v8, v9, rfl, _⟩ := id h
  have hB0 := below_alloc w (.cells #[.string p.n, .int .i64 p.e, .string p.u, .string p.r, v1, v2, v3, v4, v5, v6, v7, v8, v9] 29)
  have CR := Lib.hid (recRight_calls _ p _ (hE.below hB0) (h.below hB0) hf)
  rw [hy] at CR
  have X0 := packBox_new w p v1 v2 v3 v4 v5 v6 v7 v8 v9 29
  obtain ⟨c0, c1, c2, c3, c4, c5, c6, c7, c8, c9, c10, c11, c12⟩ := X0
  have F1 := Lib.hid (show fldE p = 1 by unfold fldE; rw [hy]; rfl)
  have F2 := Lib.hid (show fldR p = [] by unfold fldR; rw [hy]; rfl)
  clear h hf hE hy
  go_enter Tryz.func13, Tryz.ntmps13
  go_wp2_with fail
  refine CR.out.mono ?_
  rintro E w1 ⟨rfl, hb⟩
  have hB := step_below hB0 hb
  clear c0 c1 c2 c3 c4 c5 c6 c7 c8 c9 c10 c11 c12 CR hb hB0
  go_wp2_with fail
  go_ret2
  exact ⟨_, by rw [F1.out]; rfl, by rw [F2.out]; exact SlC.nil _ _ _, hB⟩

set_option maxRecDepth 100000 in
theorem refFields_no (v : Value) (p : Pv) (w : World) (hE : Env w) (h : PackAt w v p) (hf : p.Fit) (hy : saysOk p = false) : Calls Tryz.prog 12 #[v] w (RefFieldsIs p w) := by
  obtain ⟨v1, v2, v3, v4, v5, v6, v7, v8, v9, rfl, _⟩ := id h
  have hB0 := below_alloc w (.cells #[.string p.n, .int .i64 p.e, .string p.u, .string p.r, v1, v2, v3, v4, v5, v6, v7, v8, v9] 29)
  have CR := Lib.hid (refSays_calls _ p _ (hE.below hB0) (h.below hB0) hf)
  rw [hy] at CR
  have X0 := packBox_new w p v1 v2 v3 v4 v5 v6 v7 v8 v9 29
  obtain ⟨c0, c1, c2, c3, c4, c5, c6, c7, c8, c9, c10, c11, c12⟩ := X0
  have F1 := Lib.hid (show fldE p = 1 by unfold fldE; rw [hy]; rfl)
  have F2 := Lib.hid (show fldR p = [] by unfold fldR; rw [hy]; rfl)
  clear h hf hE hy
  go_enter Tryz.func12, Tryz.ntmps12
  go_wp2_with fail
  refine CR.out.mono ?_
  rintro E w1 ⟨rfl, hb⟩
  have hB := step_below hB0 hb
  clear c0 c1 c2 c3 c4 c5 c6 c7 c8 c9 c10 c11 c12 CR hb hB0
  go_wp2_with fail
  go_ret2
  exact ⟨_, by rw [F1.out]; rfl, by rw [F2.out]; exact SlC.nil _ _ _, hB⟩

theorem recFields_calls (v : Value) (p : Pv) (w : World) (hE : Env w) (hS : EnvS w) (h : PackAt w v p) (hf : p.Fit) : Calls Tryz.prog 13 #[v] w (RecFieldsIs p w) := by
  cases hy : saysOk p with
  | false => exact fields_no v p w hE h hf hy
  | true => exact fields_yes v p w hE hS h hf hy
theorem refFields_calls (v : Value) (p : Pv) (w : World) (hE : Env w) (h : PackAt w v p) (hf : p.Fit) : Calls Tryz.prog 12 #[v] w (RefFieldsIs p w) := by
  cases hy : saysOk p with
  | false => exact refFields_no v p w hE h hf hy
  | true => exact refFields_yes v p w hE h hf hy
end Go.Proofs.YtodbbfgkclkpgaaGreatDoor

namespace Go.Proofs.YtodbbfgkclkpgaaGreatDoor
open Go.RowKit

set_option maxHeartbeats 1000000 in
set_option maxRecDepth 100000 in
theorem lawFlat_calls (v : Value) (ts : List Tv) (w : World) (h : TermsAt w v ts) : Calls Tryz.prog 51 #[v] w (BoolIs (flatB ts) w) := by
  obtain ⟨A, c, rfl, hc, hm, hr⟩ := h
  obtain ⟨len, hlen⟩ : ∃ len, ts.length = len := ⟨_, rfl⟩
  have HL := Lib.hid hlen
  rw [hlen] at hc hm ⊢
  clear hlen
  by_cases h40 : 40 < len
  · have F := Lib.hid (show flatB ts = false by unfold flatB; rw [HL.out]; simp; omega)
    clear hr
    go_enter Tryz.func51, Tryz.ntmps51
    go_wp2
    go_ret
    exact ⟨ret_bool F.out.symm, Below.refl _ _⟩
  · have F := Lib.hid (show flatB ts = ts.all flatT by unfold flatB; rw [HL.out, decide_eq_true (by omega)]; rfl)
    have HR := Lib.hid hr
    clear hr
    go_enter Tryz.func51, Tryz.ntmps51
    go_wp2_with fail
    go_loopw [3] (fun i wr => ∃ k : Nat, k ≤ len ∧ i = .int .i64 k ∧ Hid ((ts.take k).all flatT = true) ∧ Below w.heap.size w wr) (fun i _ => len - (intOf i).toNat)
    case atStart => exact ⟨0, Nat.zero_le _, rfl, rfl, Below.refl _ _⟩
    case round =>
      obtain ⟨k, hk, rfl, hall, hB⟩ := hrel
      by_cases hlt : k < len
      · have hne : ts ≠ [] := by
          intro e
          have := HL.out
          rw [e] at this
          simp at this
          omega
        obtain ⟨t, ht⟩ : ∃ t, ts[k]? = some t := ⟨ts[k]'(by have := HL.out; omega), List.getElem?_eq_getElem _⟩
        obtain ⟨b, off, rfl, hi⟩ := HR.out hne
        obtain ⟨hT0, hok⟩ := hi k t ht
        clear hi hne
        have hT := hT0.below hB
        obtain ⟨c0, c1, c2, c3, c4⟩ := hT
        have HT := Lib.hid ht
        clear ht hT0 hok
        by_cases hn : 60 < t.n.size
        · have HF := Lib.hid (show flatT t = false by unfold flatT; rw [decide_eq_false (by omega)]; rfl)
          go_wp2_with fail
          go_ret
          exact ⟨ret_bool (by rw [F.out, all_stop HT.out HF.out]), hB⟩
        · have HF := Lib.hid (show flatT t = shortB t.u t.r by unfold flatT; rw [decide_eq_true (by omega)]; rfl)
          go_wp2_with fail
          refine (lawShort_calls t.e t.u t.r _).mono ?_
          rintro E w1 ⟨rfl, hb⟩
          have hB := step_below hB hb
          clear hb c0 c1 c2 c3 c4
          have hs : shortB t.u t.r = true ∨ shortB t.u t.r = false := by cases shortB t.u t.r <;> simp
          rcases hs with hs | hs
          · have HS := Lib.hid hs
            rw [hs]
            clear hs
            go_wp2_with fail
            go_roundw
            case rel => exact ⟨k + 1, by omega, by go_num, Lib.hid (all_take_succ hall.out HT.out (by rw [HF.out, HS.out])), hB⟩
            case measure => simp [intOf]; omega
          · have HS := Lib.hid hs
            rw [hs]
            clear hs
            go_wp2_with fail
            go_ret
            exact ⟨ret_bool (by rw [F.out, all_stop HT.out (by rw [HF.out, HS.out])]), hB⟩
      · obtain rfl : k = len := by omega
        go_wp2_with fail
        go_ret
        exact ⟨ret_bool (by rw [F.out]; have := hall.out; rw [← HL.out] at this; exact (all_done this).symm), hB⟩

set_option maxHeartbeats 1000000 in
set_option maxRecDepth 100000 in
theorem lawTerms_calls (v : Value) (L : List (List Tv)) (w : World) (h : AskedAt w v L) : Calls Tryz.prog 50 #[v] w (BoolIs (termsB L) w) := by
  obtain ⟨A, c, rfl, hc, hm, hr⟩ := h
  obtain ⟨len, hlen⟩ : ∃ len, L.length = len := ⟨_, rfl⟩
  have HL := Lib.hid hlen
  rw [hlen] at hc hm ⊢
  clear hlen
  by_cases h40 : 40 < len
  · have F := Lib.hid (show termsB L = false by unfold termsB; rw [HL.out]; simp; omega)
    clear hr
    go_enter Tryz.func50, Tryz.ntmps50
    go_wp2
    go_ret
    exact ⟨ret_bool F.out.symm, Below.refl _ _⟩
  · have F := Lib.hid (show termsB L = L.all flatB by unfold termsB; rw [HL.out, decide_eq_true (by omega)]; rfl)
    have HR := Lib.hid hr
    clear hr
    go_enter Tryz.func50, Tryz.ntmps50
    go_wp2_with fail
    go_loopw [3] (fun i wr => ∃ k : Nat, k ≤ len ∧ i = .int .i64 k ∧ Hid ((L.take k).all flatB = true) ∧ Below w.heap.size w wr) (fun i _ => len - (intOf i).toNat)
    case atStart => exact ⟨0, Nat.zero_le _, rfl, rfl, Below.refl _ _⟩
    case round =>
      obtain ⟨k, hk, rfl, hall, hB⟩ := hrel
      by_cases hlt : k < len
      · have hne : L ≠ [] := by
          intro e
          have := HL.out
          rw [e] at this
          simp at this
          omega
        obtain ⟨x, hx⟩ : ∃ x, L[k]? = some x := ⟨L[k]'(by have := HL.out; omega), List.getElem?_eq_getElem _⟩
        obtain ⟨b, off, rfl, hi⟩ := HR.out hne
        obtain ⟨vx, hc0, hT⟩ := hi k x hx
        clear hi hne
        have hT1 := Lib.hid (hT.below hB)
        have c0 := kept hB hc0
        have HT := Lib.hid hx
        clear hx hc0 hT
        go_wp2_with fail
        refine (lawFlat_calls vx x _ hT1.out).mono ?_
        rintro E w1 ⟨rfl, hb⟩
        have hB := step_below hB hb
        clear hb c0
        have hs : flatB x = true ∨ flatB x = false := by cases flatB x <;> simp
        rcases hs with hs | hs
        · have HS := Lib.hid hs
          rw [hs]
          clear hs
          go_wp2_with fail
          go_roundw
          case rel => exact ⟨k + 1, by omega, by go_num, Lib.hid (all_take_succ hall.out HT.out HS.out), hB⟩
          case measure => simp [intOf]; omega
        · have HS := Lib.hid hs
          rw [hs]
          clear hs
          go_wp2_with fail
          go_ret
          exact ⟨ret_bool (by rw [F.out, all_stop HT.out HS.out]), hB⟩
      · obtain rfl : k = len := by omega
        go_wp2_with fail
        go_ret
        exact ⟨ret_bool (by rw [F.out]; have := hall.out; rw [← HL.out] at this; exact (all_done this).symm), hB⟩
end Go.Proofs.YtodbbfgkclkpgaaGreatDoor

namespace Go.Proofs.YtodbbfgkclkpgaaGreatDoor
open Go.RowKit

set_option maxHeartbeats 1000000 in
set_option maxRecDepth 100000 in
theorem lawSameTerms_calls (v1 v2 : Value) (ts : List Tv) (w : World) (h1 : TermsAt w v1 ts) (h2 : TermsAt w v2 ts) : Calls Tryz.prog 101 #[v1, v2] w (BoolIs true w) := by
  obtain ⟨A1, c1, rfl, hc1, hm, hr1⟩ := h1
  obtain ⟨A2, c2, rfl, hc2, _, hr2⟩ := h2
  obtain ⟨len, hlen⟩ : ∃ len, ts.length = len := ⟨_, rfl⟩
  have HL := Lib.hid hlen
  have HR1 := Lib.hid hr1
  have HR2 := Lib.hid hr2
  rw [hlen] at hc1 hc2 hm ⊢
  clear hlen hr1 hr2
  have hne0 : ((len : Int) == (len : Int)) = true := by simp
  go_enter Tryz.func101, Tryz.ntmps101
  go_wp2_with fail
  go_loopw [5] (fun i wr => ∃ k : Nat, k ≤ len ∧ i = .int .i64 k ∧ Below w.heap.size w wr) (fun i _ => len - (intOf i).toNat)
  case atStart => exact ⟨0, Nat.zero_le _, rfl, Below.refl _ _⟩
  case round =>
    obtain ⟨k, hk, rfl, hB⟩ := hrel
    by_cases hlt : k < len
    · have hne : ts ≠ [] := by
        intro e
        have := HL.out
        rw [e] at this
        simp at this
        omega
      obtain ⟨t, ht⟩ : ∃ t, ts[k]? = some t := ⟨ts[k]'(by have := HL.out; omega), List.getElem?_eq_getElem _⟩
      obtain ⟨b1, off1, rfl, hi1⟩ := HR1.out hne
      obtain ⟨b2, off2, rfl, hi2⟩ := HR2.out hne
      have hT1 := (hi1 k t ht).1.below hB
      have hT2 := (hi2 k t ht).1.below hB
      clear hi1 hi2 hne ht
      obtain ⟨n, op, e, u, r⟩ := t
      obtain ⟨c0, c1', c2', c3, c4⟩ := hT1
      obtain ⟨d0, d1, d2, d3, d4⟩ := hT2
      dsimp only at c0 c1' c2' c3 c4 d0 d1 d2 d3 d4
      have hk0 : (0 : Int) ≤ (k : Int) := by omega
      have hk1 : (k : Int) < (len : Int) := by omega
      go_wp2_with fail
      go_quiet (fail)
      all_goals
        go_wp2_with fail
        go_roundw
        case rel => exact ⟨k + 1, by omega, by go_num, hB.trans (below_drewN _ _ _)⟩
        case measure => simp [intOf]; omega
    · obtain rfl : k = len := by omega
      go_wp2_with fail
      go_ret
      exact ⟨rfl, hB⟩

theorem two_go {w0 W W' : World} {p q : Addr} {x1 x2 : Value} (h : W.cell? p = some x1 ∧ W.cell? q = some x2 ∧ Below w0.heap.size w0 W) (hb : Below W.heap.size W W') : W'.cell? p = some x1 ∧ W'.cell? q = some x2 ∧ Below w0.heap.size w0 W' :=
  ⟨kept hb h.1, kept hb h.2.1, step_below h.2.2 hb⟩
theorem two_below {w0 W : World} {p q : Addr} {x1 x2 : Value} (h : W.cell? p = some x1 ∧ W.cell? q = some x2 ∧ Below w0.heap.size w0 W) : Below w0.heap.size w0 W := h.2.2

set_option maxHeartbeats 1000000 in
set_option maxRecDepth 100000 in
theorem lawSameAsked_calls (v1 v2 : Value) (L : List (List Tv)) (w : World) (h1 : AskedAt w v1 L) (h2 : AskedAt w v2 L) : Calls Tryz.prog 100 #[v1, v2] w (BoolIs true w) := by
  obtain ⟨A1, c1, rfl, hc1, hm, hr1⟩ := h1
  obtain ⟨A2, c2, rfl, hc2, _, hr2⟩ := h2
  obtain ⟨len, hlen⟩ : ∃ len, L.length = len := ⟨_, rfl⟩
  have HL := Lib.hid hlen
  have HR1 := Lib.hid hr1
  have HR2 := Lib.hid hr2
  rw [hlen] at hc1 hc2 hm ⊢
  clear hlen hr1 hr2
  have hne0 : ((len : Int) == (len : Int)) = true := by simp
  go_enter Tryz.func100, Tryz.ntmps100
  go_wp2_with fail
  go_loopw [5] (fun i wr => ∃ k : Nat, k ≤ len ∧ i = .int .i64 k ∧ Below w.heap.size w wr) (fun i _ => len - (intOf i).toNat)
  case atStart => exact ⟨0, Nat.zero_le _, rfl, Below.refl _ _⟩
  case round =>
    obtain ⟨k, hk, rfl, hB⟩ := hrel
    by_cases hlt : k < len
    · have hne : L ≠ [] := by
        intro e
        have := HL.out
        rw [e] at this
        simp at this
        omega
      obtain ⟨x, hx⟩ : ∃ x, L[k]? = some x := ⟨L[k]'(by have := HL.out; omega), List.getElem?_eq_getElem _⟩
      obtain ⟨b1, off1, rfl, hi1⟩ := HR1.out hne
      obtain ⟨b2, off2, rfl, hi2⟩ := HR2.out hne
      obtain ⟨x1, hc1', hT1⟩ := hi1 k x hx
      obtain ⟨x2, hc2', hT2⟩ := hi2 k x hx
      have e1 := kept hB hc1'
      have e2 := kept hB hc2'
      have HT1 := Lib.hid (hT1.below hB)
      have HT2 := Lib.hid (hT2.below hB)
      clear hi1 hi2 hne hx hc1' hc2' hT1 hT2
      have hk0 : (0 : Int) ≤ (k : Int) := by omega
      have hk1 : (k : Int) < (len : Int) := by omega
      have hS : wr.cell? ⟨b1, off1 + k, none⟩ = some x1 ∧ wr.cell? ⟨b2, off2 + k, none⟩ = some x2 ∧ Below wr.heap.size wr wr := ⟨e1, e2, Below.refl _ _⟩
      go_wp2_with fail
      go_region_held3 (fun W => W.cell? ⟨b1, off1 + k, none⟩ = some x1 ∧ W.cell? ⟨b2, off2 + k, none⟩ = some x2 ∧ Below wr.heap.size wr W)
        ((first | assumption | exact two_go (by assumption) hb | exact two_go hS (below_drew _) | exact two_go (by assumption) (below_drew _)))
        (first | (go_at_call 101; (with_reducible refine (lawSameTerms_calls x1 x2 x _ ?_ ?_).mono ?_); (exact HT1.out.below (two_below (by assumption))); (exact HT2.out.below (two_below (by assumption))); rintro E w' ⟨rfl, hb⟩))
      all_goals
        go_wp2_with fail
        go_roundw
        case rel => exact ⟨k + 1, by omega, by go_num, step_below hB (two_below (by assumption))⟩
        case measure => simp [intOf]; omega
    · obtain rfl : k = len := by omega
      go_wp2_with fail
      go_ret
      exact ⟨rfl, hB⟩
end Go.Proofs.YtodbbfgkclkpgaaGreatDoor
