/- keep.sameAsked: of the same that was asked for it says so. -/
import Derived.Test.YtlkmmejlnohjhaaGreatDoorDepMem
import Derived.Deep.QuietTactic
import Derived.BigQuiet
namespace Go.Proofs.YtlkmmejlnohjhaaGreatDoor
open Go.RowKit

set_option maxHeartbeats 2000000 in
set_option maxRecDepth 100000 in
theorem keepSame_calls (v1 v2 : Value) (L : List (List Tv)) (w : World) (h1 : AskedAt w v1 L) (h2 : AskedAt w v2 L) : Calls Tryz.prog 19 #[v1, v2] w (BoolIs true w) := by
  obtain ⟨A1, c1, rfl, hc1, hm, hr1⟩ := h1
  obtain ⟨A2, c2, rfl, hc2, _, hr2⟩ := h2
  obtain ⟨len, hlen⟩ : ∃ len, L.length = len := ⟨_, rfl⟩
  have HL := Lib.hid hlen
  have HR1 := Lib.hid hr1
  have HR2 := Lib.hid hr2
  rw [hlen] at hc1 hc2 hm ⊢
  clear hlen hr1 hr2
  have hne0 : ((len : Int) == (len : Int)) = true := by simp
  go_enter Tryz.func19, Tryz.ntmps19
  go_wp2_with fail
  go_loopw [5] (fun i wr => ∃ k : Nat, k ≤ len ∧ i = .int .i64 k ∧ Below w.heap.size w wr) (fun i _ => len - (intOf i).toNat)
  case atStart => exact ⟨0, Nat.zero_le _, rfl, Below.refl _ _⟩
  case round =>
    obtain ⟨k, hk, rfl, hB⟩ := hrel
    by_cases hlt : k < len
    · have hne : L ≠ [] := by
        intro e
        have := HL.out
        rw [e] at this
        simp at this
        omega
      obtain ⟨x, hx⟩ : ∃ x, L[k]? = some x := ⟨L[k]'(by have := HL.out; omega), List.getElem?_eq_getElem _⟩
      obtain ⟨b1, off1, rfl, hi1⟩ := HR1.out hne
      obtain ⟨b2, off2, rfl, hi2⟩ := HR2.out hne
      obtain ⟨x1, hc1', hT1⟩ := hi1 k x hx
      obtain ⟨x2, hc2', hT2⟩ := hi2 k x hx
      obtain ⟨A1', d1, rfl, hd1, hxm, hs1⟩ := hT1
      obtain ⟨A2', d2, rfl, hd2, _, hs2⟩ := hT2
      have HS1 := Lib.hid hs1
      have HS2 := Lib.hid hs2
      have HC1 := Lib.hid hc1'
      have HC2 := Lib.hid hc2'
      obtain ⟨xl, hxl⟩ : ∃ xl, x.length = xl := ⟨_, rfl⟩
      have HXL := Lib.hid hxl
      rw [hxl] at hd1 hd2 hxm HC1 HC2
      have e1 := kept hB HC1.out
      have e2 := kept hB HC2.out
      clear hi1 hi2 hne hx hc1' hc2' hs1 hs2 hxl
      have hk0 : (0 : Int) ≤ (k : Int) := by omega
      have hk1 : (k : Int) < (len : Int) := by omega
      have hnx : ((xl : Int) == (xl : Int)) = true := by simp
      go_wp2_with fail
      go_quiet (fail)
      all_goals
        go_wp2_with fail
        clear e1 e2
        go_loopw [6] (fun j wr => ∃ m : Nat, m ≤ xl ∧ j = .int .i64 m ∧ Below w.heap.size w wr) (fun j _ => xl - (intOf j).toNat)
        case atStart => exact ⟨0, Nat.zero_le _, rfl, hB.trans (below_drewN _ _ _)⟩
        case round =>
          obtain ⟨m, hm2, rfl, hB2⟩ := hrel
          have e1 := kept hB2 HC1.out
          have e2 := kept hB2 HC2.out
          by_cases hmt : m < xl
          · have hxne : x ≠ [] := by
              intro e
              have := HXL.out
              rw [e] at this
              simp at this
              omega
            obtain ⟨t, ht⟩ : ∃ t, x[m]? = some t := ⟨x[m]'(by have := HXL.out; omega), List.getElem?_eq_getElem _⟩
            obtain ⟨p1, o1, rfl, hj1⟩ := HS1.out hxne
            obtain ⟨p2, o2, rfl, hj2⟩ := HS2.out hxne
            have hT1 := (hj1 m t ht).1.below hB2
            have hT2 := (hj2 m t ht).1.below hB2
            clear hj1 hj2 hxne ht
            obtain ⟨n, op, e, u, r⟩ := t
            obtain ⟨f0, f1, f2, f3, f4⟩ := hT1
            obtain ⟨g0, g1, g2, g3, g4⟩ := hT2
            dsimp only at f0 f1 f2 f3 f4 g0 g1 g2 g3 g4
            have hm0 : (0 : Int) ≤ (m : Int) := by omega
            have hm1 : (m : Int) < (xl : Int) := by omega
            go_wp2_with fail
            go_quiet (fail)
            all_goals
              go_wp2_with fail
              go_roundw
              case rel => exact ⟨m + 1, by omega, by go_num, hB2.trans (below_drewN _ _ _)⟩
              case measure => simp [intOf]; omega
          · obtain rfl : m = xl := by omega
            go_wp2_with fail
            go_roundw
            case rel => exact ⟨k + 1, by omega, by go_num, hB2⟩
            case measure => simp [intOf]; omega
    · obtain rfl : k = len := by omega
      go_wp2_with fail
      go_ret
      exact ⟨rfl, hB⟩
end Go.Proofs.YtlkmmejlnohjhaaGreatDoor
