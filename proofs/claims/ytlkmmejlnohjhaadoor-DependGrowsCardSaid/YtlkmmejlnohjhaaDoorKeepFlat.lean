/- keep.flat, keep.terms: is what is asked for short enough to be held. -/
import Derived.Test.YtlkmmejlnohjhaaDoorDepMem
import Derived.Test.YtlkmmejlnohjhaaDoorKeepRead
import Derived.Deep.QuietTactic
import Derived.BigQuiet
import Derived.Deep.RegionHeld3
namespace Go.Proofs.YtlkmmejlnohjhaaDoor
open Go.RowKit

set_option maxHeartbeats 1000000 in
set_option maxRecDepth 100000 in
theorem keepFlat_calls (v : Value) (ts : List Tv) (w : World) (h : TermsAt w v ts) : Calls Tryd.prog 25 #[v] w (BoolIs (flatB ts) w) := by
  obtain ⟨A, c, rfl, hc, hm, hr⟩ := h
  obtain ⟨len, hlen⟩ : ∃ len, ts.length = len := ⟨_, rfl⟩
  have HL := Lib.hid hlen
  rw [hlen] at hc hm ⊢
  clear hlen
  by_cases h40 : 40 < len
  · have F := Lib.hid (show flatB ts = false by unfold flatB; rw [HL.out]; simp; omega)
    clear hr
    go_enter Tryd.func25, Tryd.ntmps25
    go_wp2
    go_ret
    exact ⟨ret_bool F.out.symm, Below.refl _ _⟩
  · have F := Lib.hid (show flatB ts = ts.all flatT by unfold flatB; rw [HL.out, decide_eq_true (by omega)]; rfl)
    have HR := Lib.hid hr
    clear hr
    go_enter Tryd.func25, Tryd.ntmps25
    go_wp2_with fail
    go_loopw [3] (fun i wr => ∃ k : Nat, k ≤ len ∧ i = .int .i64 k ∧ Hid ((ts.take k).all flatT = true) ∧ Below w.heap.size w wr) (fun i _ => len - (intOf i).toNat)
    case atStart => exact ⟨0, Nat.zero_le _, rfl, rfl, Below.refl _ _⟩
    case round =>
      obtain ⟨k, hk, rfl, hall, hB⟩ := hrel
      by_cases hlt : k < len
      · have hne : ts ≠ [] := by
          intro e
          have := HL.out
          rw [e] at this
          simp at this
          omega
        obtain ⟨t, ht⟩ : ∃ t, ts[k]? = some t := ⟨ts[k]'(by have := HL.out; omega), List.getElem?_eq_getElem _⟩
        obtain ⟨b, off, rfl, hi⟩ := HR.out hne
        obtain ⟨hT0, hok⟩ := hi k t ht
        clear hi hne
        have hT := hT0.below hB
        obtain ⟨c0, c1, c2, c3, c4⟩ := hT
        have HT := Lib.hid ht
        clear ht hT0 hok
        by_cases hn : 60 < t.n.size
        · have HF := Lib.hid (show flatT t = false by unfold flatT; rw [decide_eq_false (by omega)]; rfl)
          go_wp2_with fail
          go_ret
          exact ⟨ret_bool (by rw [F.out, all_stop HT.out HF.out]), hB⟩
        · have HF := Lib.hid (show flatT t = shortB t.u t.r by unfold flatT; rw [decide_eq_true (by omega)]; rfl)
          go_wp2_with fail
          refine (short_calls t.e t.u t.r _).mono ?_
          rintro E w1 ⟨rfl, hb⟩
          have hB := step_below hB hb
          clear hb c0 c1 c2 c3 c4
          have hs : shortB t.u t.r = true ∨ shortB t.u t.r = false := by cases shortB t.u t.r <;> simp
          rcases hs with hs | hs
          · have HS := Lib.hid hs
            rw [hs]
            clear hs
            go_wp2_with fail
            go_roundw
            case rel => exact ⟨k + 1, by omega, by go_num, Lib.hid (all_take_succ hall.out HT.out (by rw [HF.out, HS.out])), hB⟩
            case measure => simp [intOf]; omega
          · have HS := Lib.hid hs
            rw [hs]
            clear hs
            go_wp2_with fail
            go_ret
            exact ⟨ret_bool (by rw [F.out, all_stop HT.out (by rw [HF.out, HS.out])]), hB⟩
      · obtain rfl : k = len := by omega
        go_wp2_with fail
        go_ret
        exact ⟨ret_bool (by rw [F.out]; have := hall.out; rw [← HL.out] at this; exact (all_done this).symm), hB⟩

set_option maxHeartbeats 1000000 in
set_option maxRecDepth 100000 in
theorem keepTerms_calls (v : Value) (L : List (List Tv)) (w : World) (h : AskedAt w v L) : Calls Tryd.prog 24 #[v] w (BoolIs (termsB L) w) := by
  obtain ⟨A, c, rfl, hc, hm, hr⟩ := h
  obtain ⟨len, hlen⟩ : ∃ len, L.length = len := ⟨_, rfl⟩
  have HL := Lib.hid hlen
  rw [hlen] at hc hm ⊢
  clear hlen
  by_cases h40 : 40 < len
  · have F := Lib.hid (show termsB L = false by unfold termsB; rw [HL.out]; simp; omega)
    clear hr
    go_enter Tryd.func24, Tryd.ntmps24
    go_wp2
    go_ret
    exact ⟨ret_bool F.out.symm, Below.refl _ _⟩
  · have F := Lib.hid (show termsB L = L.all flatB by unfold termsB; rw [HL.out, decide_eq_true (by omega)]; rfl)
    have HR := Lib.hid hr
    clear hr
    go_enter Tryd.func24, Tryd.ntmps24
    go_wp2_with fail
    go_loopw [3] (fun i wr => ∃ k : Nat, k ≤ len ∧ i = .int .i64 k ∧ Hid ((L.take k).all flatB = true) ∧ Below w.heap.size w wr) (fun i _ => len - (intOf i).toNat)
    case atStart => exact ⟨0, Nat.zero_le _, rfl, rfl, Below.refl _ _⟩
    case round =>
      obtain ⟨k, hk, rfl, hall, hB⟩ := hrel
      by_cases hlt : k < len
      · have hne : L ≠ [] := by
          intro e
          have := HL.out
          rw [e] at this
          simp at this
          omega
        obtain ⟨x, hx⟩ : ∃ x, L[k]? = some x := ⟨L[k]'(by have := HL.out; omega), List.getElem?_eq_getElem _⟩
        obtain ⟨b, off, rfl, hi⟩ := HR.out hne
        obtain ⟨vx, hc0, hT⟩ := hi k x hx
        clear hi hne
        have hT1 := Lib.hid (hT.below hB)
        have c0 := kept hB hc0
        have HT := Lib.hid hx
        clear hx hc0 hT
        go_wp2_with fail
        refine (keepFlat_calls vx x _ hT1.out).mono ?_
        rintro E w1 ⟨rfl, hb⟩
        have hB := step_below hB hb
        clear hb c0
        have hs : flatB x = true ∨ flatB x = false := by cases flatB x <;> simp
        rcases hs with hs | hs
        · have HS := Lib.hid hs
          rw [hs]
          clear hs
          go_wp2_with fail
          go_roundw
          case rel => exact ⟨k + 1, by omega, by go_num, Lib.hid (all_take_succ hall.out HT.out HS.out), hB⟩
          case measure => simp [intOf]; omega
        · have HS := Lib.hid hs
          rw [hs]
          clear hs
          go_wp2_with fail
          go_ret
          exact ⟨ret_bool (by rw [F.out, all_stop HT.out HS.out]), hB⟩
      · obtain rfl : k = len := by omega
        go_wp2_with fail
        go_ret
        exact ⟨ret_bool (by rw [F.out]; have := hall.out; rw [← HL.out] at this; exact (all_done this).symm), hB⟩
end Go.Proofs.YtlkmmejlnohjhaaDoor
