/- stanza.name, the reference's Name: how a field may be called. -/
import Derived.Test.YtodbbfgkclkpgaaGreatDoorRT7
import Derived.Test.YtodbbfgkclkpgaaGreatDoorRT11
namespace Go.Proofs.YtodbbfgkclkpgaaGreatDoor
open Go.RowKit

theorem fname_bad {s : ByteArray} {k : Nat} (hlt : k < s.size) (h : VP.okN s[k] = false) : VP.fnameP s.data.toList = false := by
  have : s.data.toList.all VP.okN = false := by
    rw [← List.take_append_drop k s.data.toList, drop_cons s k hlt, List.all_append, List.all_cons, h]
    simp
  unfold VP.fnameP
  rw [this]
  rfl
/-- what is left when all bytes are well -/
theorem fname_rest {s : ByteArray} (h : s.data.toList.all VP.okN = true) : VP.fnameP s.data.toList = (decide (1 ≤ s.size) && decide (s.size ≤ 24) && !(s.data.toList.head? == some 35) && !(s.data.toList.head? == some 45)) := by
  unfold VP.fnameP
  rw [h, ← size_eq_length]
  rfl
theorem head_at (s : ByteArray) (h : 0 < s.size) (n : Nat) (hn : n < 256) : (s.data.toList.head? == some (UInt8.ofNat n)) = decide (s[0].toNat = n) := by
  rw [list_cons s h]
  show (some s[0] == some (UInt8.ofNat n)) = _
  rw [← u8_beq s[0] n hn]
  rfl
theorem beqI {n k : Nat} (m : Int) (hm : m = (k : Int)) (h : n = k) : ((n : Int) == m) = true := by rw [beq_iff_eq]; omega
theorem beqI_ne {n k : Nat} (m : Int) (hm : m = (k : Int)) (h : n ≠ k) : ((n : Int) == m) = false := by rw [beq_eq_false_iff_ne]; omega
theorem bneI {n k : Nat} (m : Int) (hm : m = (k : Int)) (h : n = k) : ((n : Int) != m) = false := by rw [bne, beqI m hm h]; rfl
theorem bneI_ne {n k : Nat} (m : Int) (hm : m = (k : Int)) (h : n ≠ k) : ((n : Int) != m) = true := by rw [bne, beqI_ne m hm h]; rfl

set_option maxHeartbeats 2000000 in
set_option maxRecDepth 100000 in
theorem fname_calls (s : ByteArray) (w : World) (hs : s.size ≤ 1000000) : Calls Tryz.prog 129 #[.string s] w fun E w' => E = .returned (.bool (VP.fnameP s.data.toList)) ∧ w = w' := by
  have HL := Lib.hid (size_eq_length s)
  go_enter Tryz.func129, Tryz.ntmps129
  go_wp2_with fail
  go_loop [6] (fun i => ∃ k : Nat, k ≤ s.size ∧ i = .int .i64 k ∧ Hid ((s.data.toList.take k).all VP.okN = true)) (fun i => s.size - (intOf i).toNat)
  case atStart => exact ⟨0, Nat.zero_le _, rfl, rfl⟩
  case round =>
    obtain ⟨k, hk, rfl, hall⟩ := hrel
    by_cases hlt : k < s.size
    · have hbt : s[k].toNat < 256 := s[k].toNat_lt
      have hts := Lib.hid (take_snoc s k hlt)
      have ho : VP.okN s[k] = (decide (33 ≤ s[k].toNat) && decide (s[k].toNat ≤ 126) && !decide (s[k].toNat = 58)) := by
        unfold VP.okN
        rw [show (s[k] == 58) = decide (s[k].toNat = 58) from u8_beq s[k] 58 (by omega)]
      by_cases hok : VP.okN s[k] = true
      · have HK := Lib.hid (show (s.data.toList.take (k + 1)).all VP.okN = true by rw [hts.out, List.all_append, hall.out]; simp [hok])
        rw [ho] at hok
        simp only [Bool.and_eq_true, decide_eq_true_eq, Bool.not_eq_true', decide_eq_false_iff_not] at hok
        obtain ⟨⟨h1, h2⟩, h3⟩ := hok
        have hb := beqI_ne 58 rfl h3
        clear ho hts hall h3
        go_wp2_with fail
        go_round
        case rel => exact ⟨k + 1, by omega, by go_num, HK⟩
        case measure => simp [intOf]; omega
      · have HF := Lib.hid (fname_bad hlt (Bool.eq_false_iff.2 hok))
        have hc : s[k].toNat < 33 ∨ 126 < s[k].toNat ∨ (33 ≤ s[k].toNat ∧ s[k].toNat ≤ 126 ∧ s[k].toNat = 58) := by
          rw [ho] at hok
          simp only [Bool.and_eq_true, decide_eq_true_eq, Bool.not_eq_true', decide_eq_false_iff_not] at hok
          omega
        clear ho hok hts hall HL
        rcases hc with h | h | ⟨h1, h2, h3⟩
        · go_wp2_with fail
          go_ret
          exact ⟨ret_bool HF.out.symm, rfl⟩
        · go_wp2_with fail
          go_ret
          exact ⟨ret_bool HF.out.symm, rfl⟩
        · have hb := beqI 58 rfl h3
          clear h3
          go_wp2_with fail
          go_ret
          exact ⟨ret_bool HF.out.symm, rfl⟩
    · have ha : s.data.toList.all VP.okN = true := by
        have hl := HL.out
        have := hall.out
        rwa [List.take_of_length_le (by omega)] at this
      have F := Lib.hid (fname_rest ha)
      clear ha hall
      by_cases h0 : s.size = 0
      · have HF := Lib.hid (show VP.fnameP s.data.toList = false by rw [F.out, decide_eq_false (by omega : ¬ 1 ≤ s.size)]; rfl)
        have hz := isEmpty_true s h0
        clear F
        go_wp2_with fail
        go_ret
        exact ⟨ret_bool HF.out.symm, rfl⟩
      have hz := isEmpty_false s (by omega)
      by_cases h24 : s.size ≤ 24
      case neg =>
        have HF := Lib.hid (show VP.fnameP s.data.toList = false by rw [F.out, decide_eq_false h24]; simp)
        clear F
        go_wp2_with fail
        go_ret
        exact ⟨ret_bool HF.out.symm, rfl⟩
      have hpos : 0 < s.size := by omega
      have hbt : (s[0]'hpos).toNat < 256 := (s[0]'hpos).toNat_lt
      have G : VP.fnameP s.data.toList = (!decide ((s[0]'hpos).toNat = 35) && !decide ((s[0]'hpos).toNat = 45)) := by
        rw [F.out, show (s.data.toList.head? == some 35) = _ from head_at s hpos 35 (by omega), show (s.data.toList.head? == some 45) = _ from head_at s hpos 45 (by omega), decide_eq_true (by omega : 1 ≤ s.size), decide_eq_true h24]
        rfl
      by_cases h35 : (s[0]'hpos).toNat = 35
      · have HF := Lib.hid (show VP.fnameP s.data.toList = false by rw [G, decide_eq_true h35]; rfl)
        have hb := bneI 35 rfl h35
        clear F G h35
        go_wp2_with fail
        go_ret
        exact ⟨ret_bool HF.out.symm, rfl⟩
      · by_cases h45 : (s[0]'hpos).toNat = 45
        · have HF := Lib.hid (show VP.fnameP s.data.toList = false by rw [G, decide_eq_true h45]; simp)
          have hb := bneI_ne 35 rfl h35
          have hb' := bneI 45 rfl h45
          clear F G h35 h45
          go_wp2_with fail
          go_ret
          exact ⟨ret_bool HF.out.symm, rfl⟩
        · have HF := Lib.hid (show VP.fnameP s.data.toList = true by rw [G, decide_eq_false h35, decide_eq_false h45]; rfl)
          have hb := bneI_ne 35 rfl h35
          have hb' := bneI_ne 45 rfl h45
          clear F G h35 h45
          go_wp2_with fail
          go_ret
          exact ⟨ret_bool HF.out.symm, rfl⟩

set_option maxHeartbeats 2000000 in
set_option maxRecDepth 100000 in
theorem refName_calls (s : ByteArray) (w : World) (hs : s.size ≤ 1000000) : Calls Tryz.prog 124 #[.string s] w fun E w' => E = .returned (.bool (VP.fnameP s.data.toList)) ∧ w = w' := by
  have HL := Lib.hid (size_eq_length s)
  go_enter Tryz.func124, Tryz.ntmps124
  go_wp2_with fail
  go_loop [6] (fun i => ∃ k : Nat, k ≤ s.size ∧ i = .int .i64 k ∧ Hid ((s.data.toList.take k).all VP.okN = true)) (fun i => s.size - (intOf i).toNat)
  case atStart => exact ⟨0, Nat.zero_le _, rfl, rfl⟩
  case round =>
    obtain ⟨k, hk, rfl, hall⟩ := hrel
    by_cases hlt : k < s.size
    · have hbt : s[k].toNat < 256 := s[k].toNat_lt
      have hts := Lib.hid (take_snoc s k hlt)
      have ho : VP.okN s[k] = (decide (33 ≤ s[k].toNat) && decide (s[k].toNat ≤ 126) && !decide (s[k].toNat = 58)) := by
        unfold VP.okN
        rw [show (s[k] == 58) = decide (s[k].toNat = 58) from u8_beq s[k] 58 (by omega)]
      obtain ⟨bi, hbi⟩ : ∃ b, inB (s[k].toNat : Int) 33 126 = b := ⟨_, rfl⟩
      have CI := Lib.hid (fun (W : World) => in_calls (s[k].toNat : Int) 33 126 W)
      rw [hbi] at CI
      have hin : (33 ≤ s[k].toNat ∧ s[k].toNat ≤ 126) ↔ bi = true := by
        rw [← hbi]; unfold inB; simp; omega
      clear hbi
      by_cases hok : VP.okN s[k] = true
      · have HK := Lib.hid (show (s.data.toList.take (k + 1)).all VP.okN = true by rw [hts.out, List.all_append, hall.out]; simp [hok])
        rw [ho] at hok
        simp only [Bool.and_eq_true, decide_eq_true_eq, Bool.not_eq_true', decide_eq_false_iff_not] at hok
        obtain ⟨⟨h1, h2⟩, h3⟩ := hok
        obtain rfl := hin.1 ⟨h1, h2⟩
        have hb := beqI_ne 58 rfl h3
        clear ho hts hall h3 hin h1 h2
        go_wp2_with (go_at_call 75; refine (CI.out _).mono ?_; rintro e w' ⟨rfl, rfl⟩)
        go_round
        case rel => exact ⟨k + 1, by omega, by go_num, HK⟩
        case measure => simp [intOf]; omega
      · have HF := Lib.hid (fname_bad hlt (Bool.eq_false_iff.2 hok))
        have hc : bi = false ∨ (bi = true ∧ s[k].toNat = 58) := by
          rw [ho] at hok
          simp only [Bool.and_eq_true, decide_eq_true_eq, Bool.not_eq_true', decide_eq_false_iff_not] at hok
          cases bi with
          | false => exact .inl rfl
          | true => exact .inr ⟨rfl, by have := hin.2 rfl; omega⟩
        clear ho hok hts hall HL hin
        rcases hc with rfl | ⟨rfl, h3⟩
        · go_wp2_with (go_at_call 75; refine (CI.out _).mono ?_; rintro e w' ⟨rfl, rfl⟩)
          go_ret
          exact ⟨ret_bool HF.out.symm, rfl⟩
        · have hb := beqI 58 rfl h3
          clear h3
          go_wp2_with (go_at_call 75; refine (CI.out _).mono ?_; rintro e w' ⟨rfl, rfl⟩)
          go_ret
          exact ⟨ret_bool HF.out.symm, rfl⟩
    · have ha : s.data.toList.all VP.okN = true := by
        have hl := HL.out
        have := hall.out
        rwa [List.take_of_length_le (by omega)] at this
      have F := Lib.hid (fname_rest ha)
      clear ha hall
      obtain ⟨bi, hbi⟩ : ∃ b, inB (s.size : Int) 1 24 = b := ⟨_, rfl⟩
      have CI := Lib.hid (fun (W : World) => in_calls (s.size : Int) 1 24 W)
      rw [hbi] at CI
      cases bi with
      | false =>
        have HF := Lib.hid (show VP.fnameP s.data.toList = false by
          have e : (decide (1 ≤ s.size) && decide (s.size ≤ 24)) = false := by
            rw [← hbi]; unfold inB; rw [Bool.eq_iff_iff]; simp; omega
          rw [F.out, e]; rfl)
        clear F hbi
        go_wp2_with (go_at_call 75; refine (CI.out _).mono ?_; rintro e w' ⟨rfl, rfl⟩)
        go_ret
        exact ⟨ret_bool HF.out.symm, rfl⟩
      | true =>
      have h24 : 1 ≤ s.size ∧ s.size ≤ 24 := by
        unfold inB at hbi
        simp at hbi
        omega
      have hpos : 0 < s.size := by omega
      have hbt : (s[0]'hpos).toNat < 256 := (s[0]'hpos).toNat_lt
      have G : VP.fnameP s.data.toList = (!decide ((s[0]'hpos).toNat = 35) && !decide ((s[0]'hpos).toNat = 45)) := by
        rw [F.out, show (s.data.toList.head? == some 35) = _ from head_at s hpos 35 (by omega), show (s.data.toList.head? == some 45) = _ from head_at s hpos 45 (by omega), decide_eq_true h24.1, decide_eq_true h24.2]
        rfl
      clear hbi h24
      by_cases h35 : (s[0]'hpos).toNat = 35
      · have HF := Lib.hid (show VP.fnameP s.data.toList = false by rw [G, decide_eq_true h35]; rfl)
        have hb := bneI 35 rfl h35
        clear F G h35
        go_wp2_with (go_at_call 75; refine (CI.out _).mono ?_; rintro e w' ⟨rfl, rfl⟩)
        go_ret
        exact ⟨ret_bool HF.out.symm, rfl⟩
      · by_cases h45 : (s[0]'hpos).toNat = 45
        · have HF := Lib.hid (show VP.fnameP s.data.toList = false by rw [G, decide_eq_true h45]; simp)
          have hb := bneI_ne 35 rfl h35
          have hb' := bneI 45 rfl h45
          clear F G h35 h45
          go_wp2_with (go_at_call 75; refine (CI.out _).mono ?_; rintro e w' ⟨rfl, rfl⟩)
          go_ret
          exact ⟨ret_bool HF.out.symm, rfl⟩
        · have HF := Lib.hid (show VP.fnameP s.data.toList = true by rw [G, decide_eq_false h35, decide_eq_false h45]; rfl)
          have hb := bneI_ne 35 rfl h35
          have hb' := bneI_ne 45 rfl h45
          clear F G h35 h45
          go_wp2_with (go_at_call 75; refine (CI.out _).mono ?_; rintro e w' ⟨rfl, rfl⟩)
          go_ret
          exact ⟨ret_bool HF.out.symm, rfl⟩
end Go.Proofs.YtodbbfgkclkpgaaGreatDoor
