/- stanza.name, the reference's Name: how a field may be called. · The reference's PackName: may a package be called so. · The reference's gap and bare. -/
import Derived.Test.YtodbbfgkclkpgaaGreatDoorARC6
import Derived.Test.YtodbbfgkclkpgaaGreatDoorARC7
import Derived.Test.YtodbbfgkclkpgaaGreatDoorARC9
import Derived.Test.YtodbbfgkclkpgaaGreatDoorARC2
namespace Go.Proofs.YtodbbfgkclkpgaaGreatDoor
open Go.RowKit

theorem fname_bad {s : ByteArray} {k : Nat} (hlt : k < s.size) (h : VP.okN s[k] = false) : VP.fnameP s.data.toList = false := by
  have : s.data.toList.all VP.okN = false := by
    rw [← List.take_append_drop k s.data.toList, drop_cons s k hlt, List.all_append, List.all_cons, h]
    simp
  unfold VP.fnameP
  rw [this]
  rfl
/-- what is left when all bytes are well -/
theorem fname_rest {s : ByteArray} (h : s.data.toList.all VP.okN = true) : VP.fnameP s.data.toList = (decide (1 ≤ s.size) && decide (s.size ≤ 24) && !(s.data.toList.head? == some 35) && !(s.data.toList.head? == some 45)) := by
  unfold VP.fnameP
  rw [h, ← size_eq_length]
  rfl
theorem head_at (s : ByteArray) (h : 0 < s.size) (n : Nat) (hn : n < 256) : (s.data.toList.head? == some (UInt8.ofNat n)) = decide (s[0].toNat = n) := by
  rw [list_cons s h]
  show (some s[0] == some (UInt8.ofNat n)) = _
  rw [← u8_beq s[0] n hn]
  rfl
theorem beqI {n k : Nat} (m : Int) (hm : m = (k : Int)) (h : n = k) : ((n : Int) == m) = true := by rw [beq_iff_eq]; omega
theorem beqI_ne {n k : Nat} (m : Int) (hm : m = (k : Int)) (h : n ≠ k) : ((n : Int) == m) = false := by rw [beq_eq_false_iff_ne]; omega
theorem bneI {n k : Nat} (m : Int) (hm : m = (k : Int)) (h : n = k) : ((n : Int) != m) = false := by rw [bne, beqI m hm h]; rfl
theorem bneI_ne {n k : Nat} (m : Int) (hm : m = (k : Int)) (h : n ≠ k) : ((n : Int) != m) = true := by rw [bne, beqI_ne m hm h]; rfl

set_option maxHeartbeats 2000000 in
set_option maxRecDepth 100000 in
theorem fname_calls (s : ByteArray) (w : World) (hs : s.size ≤ 1000000) : Calls Tryz.prog 129 #[.string s] w fun E w' => E = .returned (.bool (VP.fnameP s.data.toList)) ∧ w = w' := by
  have HL := Lib.hid (size_eq_length s)
  go_enter Tryz.func129, Tryz.ntmps129
  go_wp2_with fail
  go_loop [6] (fun i => ∃ k : Nat, k ≤ s.size ∧ i = .int .i64 k ∧ Hid ((s.data.toList.take k).all VP.okN = true)) (fun i => s.size - (intOf i).toNat)
  case atStart => exact ⟨0, Nat.zero_le _, rfl, rfl⟩
  case round =>
    obtain ⟨k, hk, rfl, hall⟩ := hrel
    by_cases hlt : k < s.size
    · have hbt : s[k].toNat < 256 := s[k].toNat_lt
      have hts := Lib.hid (take_snoc s k hlt)
      have ho : VP.okN s[k] = (decide (33 ≤ s[k].toNat) && decide (s[k].toNat ≤ 126) && !decide (s[k].toNat = 58)) := by
        unfold VP.okN
        rw [show (s[k] == 58) = decide (s[k].toNat = 58) from u8_beq s[k] 58 (by omega)]
      by_cases hok : VP.okN s[k] = true
      · have HK := Lib.hid (show (s.data.toList.take (k + 1)).all VP.okN = true by rw [hts.out, List.all_append, hall.out]; simp [hok])
        rw [ho] at hok
        simp only [Bool.and_eq_true, decide_eq_true_eq, Bool.not_eq_true', decide_eq_false_iff_not] at hok
        obtain ⟨⟨h1, h2⟩, h3⟩ := hok
        have hb := beqI_ne 58 rfl h3
        clear ho hts hall h3
        go_wp2_with fail
        go_round
        case rel => exact ⟨k + 1, by omega, by go_num, HK⟩
        case measure => simp [intOf]; omega
      · have HF := Lib.hid (fname_bad hlt (Bool.eq_false_iff.2 hok))
        have hc : s[k].toNat < 33 ∨ 126 < s[k].toNat ∨ (33 ≤ s[k].toNat ∧ s[k].toNat ≤ 126 ∧ s[k].toNat = 58) := by
          rw [ho] at hok
          simp only [Bool.and_eq_true, decide_eq_true_eq, Bool.not_eq_true', decide_eq_false_iff_not] at hok
          omega
        clear ho hok hts hall HL
        rcases hc with h | h | ⟨h1, h2, h3⟩
        · go_wp2_with fail
          go_ret
          exact ⟨ret_bool HF.out.symm, rfl⟩
        · go_wp2_with fail
          go_ret
          exact ⟨ret_bool HF.out.symm, rfl⟩
        · have hb := beqI 58 rfl h3
          clear h3
          go_wp2_with fail
          go_ret
          exact ⟨ret_bool HF.out.symm, rfl⟩
    · have ha : s.data.toList.all VP.okN = true := by
        have hl := HL.out
        have := hall.out
        rwa [List.take_of_length_le (by omega)] at this
      have F := Lib.hid (fname_rest ha)
      clear ha hall
      by_cases h0 : s.size = 0
      · have HF := Lib.hid (show VP.fnameP s.data.toList = false by rw [F.out, decide_eq_false (by omega : ¬ 1 ≤ s.size)]; rfl)
        have hz := isEmpty_true s h0
        clear F
        go_wp2_with fail
        go_ret
        exact ⟨ret_bool HF.out.symm, rfl⟩
      have hz := isEmpty_false s (by omega)
      by_cases h24 : s.size ≤ 24
      case neg =>
        have HF := Lib.hid (show VP.fnameP s.data.toList = false by rw [F.out, decide_eq_false h24]; simp)
        clear F
        go_wp2_with fail
        go_ret
        exact ⟨ret_bool HF.out.symm, rfl⟩
      have hpos : 0 < s.size := by omega
      have hbt : (s[0]'hpos).toNat < 256 := (s[0]'hpos).toNat_lt
      have G : VP.fnameP s.data.toList = (!decide ((s[0]'hpos).toNat = 35) && !decide ((s[0]'hpos).toNat = 45)) := by
        rw [F.out, show (s.data.toList.head? == some 35) = _ from head_at s hpos 35 (by omega), show (s.data.toList.head? == some 45) = _ from head_at s hpos 45 (by omega), decide_eq_true (by omega : 1 ≤ s.size), decide_eq_true h24]
        rfl
      by_cases h35 : (s[0]'hpos).toNat = 35
      · have HF := Lib.hid (show VP.fnameP s.data.toList = false by rw [G, decide_eq_true h35]; rfl)
        have hb := bneI 35 rfl h35
        clear F G h35
        go_wp2_with fail
        go_ret
        exact ⟨ret_bool HF.out.symm, rfl⟩
      · by_cases h45 : (s[0]'hpos).toNat = 45
        · have HF := Lib.hid (show VP.fnameP s.data.toList = false by rw [G, decide_eq_true h45]; simp)
          have hb := bneI_ne 35 rfl h35
          have hb' := bneI 45 rfl h45
          clear F G h35 h45
          go_wp2_with fail
          go_ret
          exact ⟨ret_bool HF.out.symm, rfl⟩
        · have HF := Lib.hid (show VP.fnameP s.data.toList = true by rw [G, decide_eq_false h35, decide_eq_false h45]; rfl)
          have hb := bneI_ne 35 rfl h35
          have hb' := bneI_ne 45 rfl h45
          clear F G h35 h45
          go_wp2_with fail
          go_ret
          exact ⟨ret_bool HF.out.symm, rfl⟩

set_option maxHeartbeats 2000000 in
set_option maxRecDepth 100000 in
theorem refName_calls (s : ByteArray) (w : World) (hs : s.size ≤ 1000000) : Calls Tryz.prog 124 #[.string s] w fun E w' => E = .returned (.bool (VP.fnameP s.data.toList)) ∧ w = w' := by
  have HL := Lib.hid (size_eq_length s)
  go_enter Tryz.func124, Tryz.ntmps124
  go_wp2_with fail
  go_loop [6] (fun i => ∃ k : Nat, k ≤ s.size ∧ i = .int .i64 k ∧ Hid ((s.data.toList.take k).all VP.okN = true)) (fun i => s.size - (intOf i).toNat)
  case atStart => exact ⟨0, Nat.zero_le _, rfl, rfl⟩
  case round =>
    obtain ⟨k, hk, rfl, hall⟩ := hrel
    by_cases hlt : k < s.size
    · have hbt : s[k].toNat < 256 := s[k].toNat_lt
      have hts := Lib.hid (take_snoc s k hlt)
      have ho : VP.okN s[k] = (decide (33 ≤ s[k].toNat) && decide (s[k].toNat ≤ 126) && !decide (s[k].toNat = 58)) := by
        unfold VP.okN
        rw [show (s[k] == 58) = decide (s[k].toNat = 58) from u8_beq s[k] 58 (by omega)]
      obtain ⟨bi, hbi⟩ : ∃ b, inB (s[k].toNat : Int) 33 126 = b := ⟨_, rfl⟩
      have CI := Lib.hid (fun (W : World) => in_calls (s[k].toNat : Int) 33 126 W)
      rw [hbi] at CI
      have hin : (33 ≤ s[k].toNat ∧ s[k].toNat ≤ 126) ↔ bi = true := by
        rw [← hbi]; unfold inB; simp; omega
      clear hbi
      by_cases hok : VP.okN s[k] = true
      · have HK := Lib.hid (show (s.data.toList.take (k + 1)).all VP.okN = true by rw [hts.out, List.all_append, hall.out]; simp [hok])
        rw [ho] at hok
        simp only [Bool.and_eq_true, decide_eq_true_eq, Bool.not_eq_true', decide_eq_false_iff_not] at hok
        obtain ⟨⟨h1, h2⟩, h3⟩ := hok
        obtain rfl := hin.1 ⟨h1, h2⟩
        have hb := beqI_ne 58 rfl h3
        clear ho hts hall h3 hin h1 h2
        go_wp2_with (go_at_call 75; refine (CI.out _).mono ?_; rintro e w' ⟨rfl, rfl⟩)
        go_round
        case rel => exact ⟨k + 1, by omega, by go_num, HK⟩
        case measure => simp [intOf]; omega
      · have HF := Lib.hid (fname_bad hlt (Bool.eq_false_iff.2 hok))
        have hc : bi = false ∨ (bi = true ∧ s[k].toNat = 58) := by
          rw [ho] at hok
          simp only [Bool.and_eq_true, decide_eq_true_eq, Bool.not_eq_true', decide_eq_false_iff_not] at hok
          cases bi with
          | false => exact .inl rfl
          | true => exact .inr ⟨rfl, by have := hin.2 rfl; omega⟩
        clear ho hok hts hall HL hin
        rcases hc with rfl | ⟨rfl, h3⟩
        · go_wp2_with (go_at_call 75; refine (CI.out _).mono ?_; rintro e w' ⟨rfl, rfl⟩)
          go_ret
          exact ⟨ret_bool HF.out.symm, rfl⟩
        · have hb := beqI 58 rfl h3
          clear h3
          go_wp2_with (go_at_call 75; refine (CI.out _).mono ?_; rintro e w' ⟨rfl, rfl⟩)
          go_ret
          exact ⟨ret_bool HF.out.symm, rfl⟩
    · have ha : s.data.toList.all VP.okN = true := by
        have hl := HL.out
        have := hall.out
        rwa [List.take_of_length_le (by omega)] at this
      have F := Lib.hid (fname_rest ha)
      clear ha hall
      obtain ⟨bi, hbi⟩ : ∃ b, inB (s.size : Int) 1 24 = b := ⟨_, rfl⟩
      have CI := Lib.hid (fun (W : World) => in_calls (s.size : Int) 1 24 W)
      rw [hbi] at CI
      cases bi with
      | false =>
        have HF := Lib.hid (show VP.fnameP s.data.toList = false by
          have e : (decide (1 ≤ s.size) && decide (s.size ≤ 24)) = false := by
            rw [← hbi]; unfold inB; rw [Bool.eq_iff_iff]; simp; omega
          rw [F.out, e]; rfl)
        clear F hbi
        go_wp2_with (go_at_call 75; refine (CI.out _).mono ?_; rintro e w' ⟨rfl, rfl⟩)
        go_ret
        exact ⟨ret_bool HF.out.symm, rfl⟩
      | true =>
      have h24 : 1 ≤ s.size ∧ s.size ≤ 24 := by
        unfold inB at hbi
        simp at hbi
        omega
      have hpos : 0 < s.size := by omega
      have hbt : (s[0]'hpos).toNat < 256 := (s[0]'hpos).toNat_lt
      have G : VP.fnameP s.data.toList = (!decide ((s[0]'hpos).toNat = 35) && !decide ((s[0]'hpos).toNat = 45)) := by
        rw [F.out, show (s.data.toList.head? == some 35) = _ from head_at s hpos 35 (by omega), show (s.data.toList.head? == some 45) = _ from head_at s hpos 45 (by omega), decide_eq_true h24.1, decide_eq_true h24.2]
        rfl
      clear hbi h24
      by_cases h35 : (s[0]'hpos).toNat = 35
      · have HF := Lib.hid (show VP.fnameP s.data.toList = false by rw [G, decide_eq_true h35]; rfl)
        have hb := bneI 35 rfl h35
        clear F G h35
        go_wp2_with (go_at_call 75; refine (CI.out _).mono ?_; rintro e w' ⟨rfl, rfl⟩)
        go_ret
        exact ⟨ret_bool HF.out.symm, rfl⟩
      · by_cases h45 : (s[0]'hpos).toNat = 45
        · have HF := Lib.hid (show VP.fnameP s.data.toList = false by rw [G, decide_eq_true h45]; simp)
          have hb := bneI_ne 35 rfl h35
          have hb' := bneI 45 rfl h45
          clear F G h35 h45
          go_wp2_with (go_at_call 75; refine (CI.out _).mono ?_; rintro e w' ⟨rfl, rfl⟩)
          go_ret
          exact ⟨ret_bool HF.out.symm, rfl⟩
        · have HF := Lib.hid (show VP.fnameP s.data.toList = true by rw [G, decide_eq_false h35, decide_eq_false h45]; rfl)
          have hb := bneI_ne 35 rfl h35
          have hb' := bneI_ne 45 rfl h45
          clear F G h35 h45
          go_wp2_with (go_at_call 75; refine (CI.out _).mono ?_; rintro e w' ⟨rfl, rfl⟩)
          go_ret
          exact ⟨ret_bool HF.out.symm, rfl⟩
end Go.Proofs.YtodbbfgkclkpgaaGreatDoor

namespace Go.Proofs.YtodbbfgkclkpgaaGreatDoor
open Go.RowKit

theorem low_iff (c : UInt8) : VP.low c = true ↔ 97 ≤ c.toNat ∧ c.toNat ≤ 122 := by unfold VP.low; simp
set_option maxHeartbeats 1000000 in
set_option maxRecDepth 100000 in
theorem packName_calls (s : ByteArray) (w : World) (hs : s.size ≤ 1000000) : Calls Tryz.prog 70 #[.string s] w fun E w' => E = .returned (.bool (VP.nameP s.data.toList)) ∧ w = w' := by
  have HL := Lib.hid (size_eq_length s)
  have F := Lib.hid (nameP_good s.data.toList)
  go_enter Tryz.func70, Tryz.ntmps70
  go_wp2_with fail
  go_loop [7] (fun i => ∃ k : Nat, k ≤ s.size ∧ i = .int .i64 k ∧ Hid (goodN (s.data.toList.take k) = true)) (fun i => s.size - (intOf i).toNat)
  case atStart => exact ⟨0, Nat.zero_le _, rfl, rfl⟩
  case round =>
    obtain ⟨k, hk, rfl, hall⟩ := hrel
    by_cases hlt : k < s.size
    · have hts := Lib.hid (take_snoc s k hlt)
      have hdr := Lib.hid (drop_cons s k hlt)
      have hbt : s[k].toNat < 256 := s[k].toNat_lt
      obtain ⟨c, hc⟩ : ∃ c, s[k] = c := ⟨_, rfl⟩
      -- on: the byte is one of a name's
      have hon : Hid (goodN (s.data.toList.take k ++ [s[k]]) = true → goodN (s.data.toList.take (k + 1)) = true) := fun h => by rw [hts.out]; exact h
      have hoff : Hid (goodN (s.data.toList.take k ++ [s[k]]) = false → goodN s.data.toList = false) := fun h => by
        rw [← List.take_append_drop (k + 1) s.data.toList, hts.out, goodN_append (by simp), h]; rfl
      have hnil : Hid (k = 0 → s.data.toList.take k = []) := fun h => by rw [h]; rfl
      have hcons : Hid (0 < k → s.data.toList.take k ≠ []) := fun h e => by
        have := congrArg List.length e
        rw [List.length_take, ← HL.out, List.length_nil] at this
        omega
      clear hc
      by_cases hlow : VP.low s[k] = true
      · have h1 := (low_iff _).1 hlow
        have HP : Hid (goodN (s.data.toList.take (k + 1)) = true) := by
          refine hon.out ?_
          have h0 : VP.nm0 s[k] = true := by unfold VP.nm0; rw [hlow]; rfl
          by_cases hk0 : k = 0
          · rw [hnil.out hk0]; show (VP.nm0 s[k] && true) = true; rw [h0]; rfl
          · rw [goodN_append (hcons.out (by omega)), hall.out]; show (true && (VP.nm1 s[k] && true)) = true; rw [nm0_nm1 _ h0]; rfl
        have ha : 97 ≤ s[k].toNat := h1.1
        have hb : s[k].toNat ≤ 122 := h1.2
        clear hlow h1
        go_wp2_with fail
        go_round
        case rel => exact ⟨k + 1, by omega, by go_num, HP⟩
        case measure => simp [intOf]; omega
      · have hlo : s[k].toNat < 97 ∨ (122 < s[k].toNat ∧ decide (((s[k].toNat : Nat) : Int) ≤ 122) = false) := by
          have h' : ¬ (97 ≤ s[k].toNat ∧ s[k].toNat ≤ 122) := fun h => hlow ((low_iff s[k]).2 h)
          rcases Nat.lt_or_ge s[k].toNat 97 with h | h
          · exact .inl h
          · exact .inr ⟨by omega, decide_eq_false (by omega)⟩
        have HLO := Lib.hid (show VP.low s[k] = false by simpa using hlow)
        clear hlow
        have hd : VP.dig s[k] = true ∨ VP.dig s[k] = false := by cases VP.dig s[k] <;> simp
        rcases hd with hd | hd
        · have HP : Hid (goodN (s.data.toList.take (k + 1)) = true) := by
            refine hon.out ?_
            have h0 : VP.nm0 s[k] = true := by unfold VP.nm0; rw [hd]; simp
            by_cases hk0 : k = 0
            · rw [hnil.out hk0]; show (VP.nm0 s[k] && true) = true; rw [h0]; rfl
            · rw [goodN_append (hcons.out (by omega)), hall.out]; show (true && (VP.nm1 s[k] && true)) = true; rw [nm0_nm1 _ h0]; rfl
          rcases hlo with hlo | ⟨hlo, hz⟩
          all_goals
            go_wp2_with (go_at_call 76; refine (digit_calls _ _).mono ?_; rintro e w' ⟨rfl, rfl⟩)
            go_round
            case rel => exact ⟨k + 1, by omega, by go_num, HP⟩
            case measure => simp [intOf]; omega
        · have H0 : Hid (VP.nm0 s[k] = false) := by unfold VP.nm0; rw [HLO.out, hd]; exact rfl
          by_cases hk0 : k = 0
          · have HP : Hid (goodN s.data.toList = false) := hoff.out (by rw [hnil.out hk0]; show (VP.nm0 s[k] && true) = false; rw [H0.out]; rfl)
            have hkb : ((k : Int) == 0) = true := by rw [beq_iff_eq]; omega
            have HK0 := Lib.hid hk0
            clear hk0
            rcases hlo with hlo | ⟨hlo, hz⟩
            all_goals
              go_wp2_with (go_at_call 76; refine (digit_calls _ _).mono ?_; rintro e w' ⟨rfl, rfl⟩)
              go_ret
              exact ⟨ret_bool (by rw [F.out, HP.out, Bool.and_false]), rfl⟩
          · have hk1 : 0 < k := by omega
            have hkb : ((k : Int) == 0) = false := by rw [beq_eq_false_iff_ne]; omega
            by_cases hs : s[k].toNat = 43 ∨ s[k].toNat = 45 ∨ s[k].toNat = 46
            · have HP : Hid (goodN (s.data.toList.take (k + 1)) = true) := by
                refine hon.out ?_
                rw [goodN_append (hcons.out hk1), hall.out]
                show (true && (VP.nm1 s[k] && true)) = true
                have : VP.nm1 s[k] = true := by
                  unfold VP.nm1
                  rcases hs with h | h | h
                  · rw [show s[k] = 43 from UInt8.toNat_inj.1 h]; rfl
                  · rw [show s[k] = 45 from UInt8.toNat_inj.1 h]; rfl
                  · rw [show s[k] = 46 from UInt8.toNat_inj.1 h]; rfl
                rw [this]; rfl
              have hs' : ((((s[k].toNat : Nat) : Int) == 43) = true) ∨ ((((s[k].toNat : Nat) : Int) == 43) = false ∧ (((s[k].toNat : Nat) : Int) == 45) = true) ∨ ((((s[k].toNat : Nat) : Int) == 43) = false ∧ (((s[k].toNat : Nat) : Int) == 45) = false ∧ (((s[k].toNat : Nat) : Int) == 46) = true) := by
                simp only [beq_iff_eq, beq_eq_false_iff_ne]
                omega
              have hlo' : s[k].toNat < 97 := by omega
              clear hs hk0 hlo
              have hs2 : ((((s[k].toNat : Nat) : Int) == 43) = true ∧ (((s[k].toNat : Nat) : Int) != 43) = false) ∨ ((((s[k].toNat : Nat) : Int) == 43) = false ∧ (((s[k].toNat : Nat) : Int) != 43) = true ∧ (((s[k].toNat : Nat) : Int) == 45) = true ∧ (((s[k].toNat : Nat) : Int) != 45) = false) ∨
                  ((((s[k].toNat : Nat) : Int) == 43) = false ∧ (((s[k].toNat : Nat) : Int) != 43) = true ∧ (((s[k].toNat : Nat) : Int) == 45) = false ∧ (((s[k].toNat : Nat) : Int) != 45) = true ∧ (((s[k].toNat : Nat) : Int) == 46) = true ∧ (((s[k].toNat : Nat) : Int) != 46) = false) := by
                rcases hs' with ha | ⟨ha, hb⟩ | ⟨ha, hb, hc⟩
                · exact .inl ⟨ha, bne_of_true ha⟩
                · exact .inr (.inl ⟨ha, bne_of_false ha, hb, bne_of_true hb⟩)
                · exact .inr (.inr ⟨ha, bne_of_false ha, hb, bne_of_false hb, hc, bne_of_true hc⟩)
              clear hs'
              rcases hs2 with ⟨ha, ha'⟩ | ⟨ha, ha', hb, hb'⟩ | ⟨ha, ha', hb, hb', hc, hc'⟩
              all_goals
                go_wp2_with (go_at_call 76; refine (digit_calls _ _).mono ?_; rintro e w' ⟨rfl, rfl⟩)
                go_round
                case rel => exact ⟨k + 1, by omega, by go_num, HP⟩
                case measure => simp [intOf]; omega
            · have HP : Hid (goodN s.data.toList = false) := by
                refine hoff.out ?_
                rw [goodN_append (hcons.out hk1), hall.out]
                show (true && (VP.nm1 s[k] && true)) = false
                have : VP.nm1 s[k] = false := by
                  unfold VP.nm1
                  rw [H0.out]
                  have h1 : (s[k] == 43) = false := by rw [beq_eq_false_iff_ne]; intro e; exact hs (.inl (by rw [e]; rfl))
                  have h2 : (s[k] == 45) = false := by rw [beq_eq_false_iff_ne]; intro e; exact hs (.inr (.inl (by rw [e]; rfl)))
                  have h3 : (s[k] == 46) = false := by rw [beq_eq_false_iff_ne]; intro e; exact hs (.inr (.inr (by rw [e]; rfl)))
                  rw [h1, h2, h3]; rfl
                rw [this]; rfl
              have n43 : (((s[k].toNat : Nat) : Int) == 43) = false := by rw [beq_eq_false_iff_ne]; omega
              have n45 : (((s[k].toNat : Nat) : Int) == 45) = false := by rw [beq_eq_false_iff_ne]; omega
              have n46 : (((s[k].toNat : Nat) : Int) == 46) = false := by rw [beq_eq_false_iff_ne]; omega
              have m43 := bne_of_false n43
              have m45 := bne_of_false n45
              have m46 := bne_of_false n46
              clear hs hk0
              rcases hlo with hlo | ⟨hlo, hz⟩
              all_goals
                go_wp2_with (go_at_call 76; refine (digit_calls _ _).mono ?_; rintro e w' ⟨rfl, rfl⟩)
                go_ret
                exact ⟨ret_bool (by rw [F.out, HP.out, Bool.and_false]), rfl⟩
    · obtain rfl : k = s.size := by omega
      have HP : Hid (goodN s.data.toList = true) := by
        have := hall.out
        rw [HL.out, List.take_length] at this
        exact this
      go_wp2_with (go_at_call 75; refine (in_calls _ _ _ _).mono ?_; rintro E w' ⟨rfl, rfl⟩)
      go_ret
      exact ⟨ret_bool (by rw [F.out, HP.out, Bool.and_true, HL.out]), rfl⟩
end Go.Proofs.YtodbbfgkclkpgaaGreatDoor

namespace Go.Proofs.YtodbbfgkclkpgaaGreatDoor
open Go.RowKit

theorem gap_calls (c : UInt8) (w : World) : Calls Tryz.prog 182 #[.int .u8 (c.toNat : Int)] w fun e w' => e = .returned (.bool (VP.gap c)) ∧ w = w' := by
  have hc : (((c.toNat : Nat) : Int) == 32) = (c == 32) ∧ (((c.toNat : Nat) : Int) == 9) = (c == 9) ∧ (((c.toNat : Nat) : Int) == 10) = (c == 10) := by
    have key : ∀ k : UInt8, (((c.toNat : Nat) : Int) == ((k.toNat : Nat) : Int)) = (c == k) := fun k => by
      rw [Bool.eq_iff_iff, beq_iff_eq, beq_iff_eq, ← UInt8.toNat_inj]; omega
    exact ⟨key 32, key 9, key 10⟩
  obtain ⟨h1, h2, h3⟩ := hc
  have F := Lib.hid (show VP.gap c = ((c == 32) || (c == 9) || (c == 10)) from rfl)
  cases e1 : (c == 32) <;> cases e2 : (c == 9) <;> cases e3 : (c == 10)
  all_goals
    rw [e1] at h1
    rw [e2] at h2
    rw [e3] at h3
    have F' := Lib.hid (F.out.trans (by rw [e1, e2, e3]))
    clear e1 e2 e3 F
    go_enter Tryz.func182, Tryz.ntmps182
    go_wp2
    go_ret
    exact ⟨ret_bool (by rw [F'.out] <;> simp), rfl⟩

def strSize : Value → Nat
  | .string s => s.size
  | _ => 0

def RefBareIs (s : ByteArray) (w : World) (E : Ending) (w' : World) : Prop := (∃ t : ByteArray, E = .returned (.string t) ∧ t.data.toList = VP.trimP s.data.toList) ∧ w = w'

theorem drop_first {t : ByteArray} (h : 0 < t.size) : t.data.toList = t[0] :: (t.extract 1 t.size).data.toList := by
  have := drop_cons t 0 h
  rw [List.drop_zero] at this
  rw [this, Lib.extract_to_end]
theorem drop_last {t : ByteArray} {m : Nat} (h : t.size = m + 1) : t.data.toList = (t.extract 0 m).data.toList ++ [t[m]'(by omega)] := by
  have h1 := take_snoc t m (by omega)
  have h2 : t.data.toList.take (m + 1) = t.data.toList := List.take_of_length_le (by rw [← size_eq_length]; omega)
  rw [h2] at h1
  rw [h1, Lib.extract_data]
  simp

set_option maxHeartbeats 1000000 in
set_option maxRecDepth 100000 in
theorem refBare_calls (s : ByteArray) (w : World) (hs : s.size ≤ 1000000) : Calls Tryz.prog 149 #[.string s] w (RefBareIs s w) := by
  go_enter Tryz.func149, Tryz.ntmps149
  go_wp2_with fail
  go_loop [0] (fun v => ∃ t : ByteArray, v = .string t ∧ t.size ≤ s.size ∧ Hid (t.data.toList.dropWhile VP.gap = s.data.toList.dropWhile VP.gap)) (fun v => strSize v)
  case atStart => exact ⟨s, rfl, Nat.le_refl _, rfl⟩
  case round =>
    obtain ⟨t, rfl, htz, htd⟩ := hrel
    have hcase : (∃ _ : 0 < t.size, t.toList.isEmpty = false ∧ VP.gap t[0] = true) ∨ ((∃ _ : 0 < t.size, t.toList.isEmpty = false ∧ VP.gap t[0] = false) ∨ (t.size = 0 ∧ t.toList.isEmpty = true)) := by
      by_cases hp : 0 < t.size
      · cases hg : VP.gap t[0] with
        | true => exact .inl ⟨hp, isEmpty_false t hp, hg⟩
        | false => exact .inr (.inl ⟨hp, isEmpty_false t hp, hg⟩)
      · exact .inr (.inr ⟨by omega, isEmpty_true t (by omega)⟩)
    rcases hcase with ⟨hp, hne, hg⟩ | hcase
    · have HG := Lib.hid hg
      go_wp2_with (go_at_call 182; refine (gap_calls _ _).mono ?_; rintro e w' ⟨rfl, rfl⟩)
      go_round
      case rel => exact ⟨_, rfl, by simp; omega, Lib.hid (by rw [← htd.out, drop_first hp, List.dropWhile_cons, if_pos HG.out])⟩
      case measure => simp [strSize]; omega
    · have HT : Hid (VP.trimR t.data.toList = VP.trimP s.data.toList) := by
        have h : t.data.toList.dropWhile VP.gap = t.data.toList := by
          rcases hcase with ⟨hp, _, hg⟩ | ⟨hp, _⟩
          · rw [drop_first hp, List.dropWhile_cons, if_neg (by rw [hg]; simp)]
          · rw [size_eq_length] at hp
            rw [List.eq_nil_of_length_eq_zero hp]; rfl
        show VP.trimR t.data.toList = VP.trimP s.data.toList
        rw [← VP.trim_comm, ← htd.out, h]
      clear htd
      rcases hcase with ⟨hp, hne, hg⟩ | ⟨hp, hne⟩
      all_goals
        go_wp2_with (go_at_call 182; refine (gap_calls _ _).mono ?_; rintro e w' ⟨rfl, rfl⟩)
        go_loop [0] (fun v => ∃ t : ByteArray, v = .string t ∧ t.size ≤ s.size ∧ Hid (VP.trimR t.data.toList = VP.trimP s.data.toList)) (fun v => strSize v)
        case atStart => exact ⟨t, rfl, htz, HT⟩
        case round =>
          obtain ⟨v, rfl, hvz, hvt⟩ := hrel
          by_cases hv : 0 < v.size
          · have hne := isEmpty_false v hv
            obtain ⟨m, hm⟩ : ∃ m, v.size = m + 1 := ⟨v.size - 1, by omega⟩
            have hml : m < v.size := by omega
            have HD := Lib.hid (drop_last hm)
            cases hg : VP.gap (v[m]'hml) with
            | true =>
              have HG := Lib.hid hg
              go_wp2_with (go_at_call 182; refine (gap_calls _ _).mono ?_; rintro e w' ⟨rfl, rfl⟩)
              go_round
              case rel => exact ⟨_, rfl, by simp; omega, Lib.hid (by rw [← hvt.out, HD.out, VP.trimR_snoc, if_pos HG.out])⟩
              case measure => simp [strSize]; omega
            | false =>
              have HG := Lib.hid hg
              go_wp2_with (go_at_call 182; refine (gap_calls _ _).mono ?_; rintro e w' ⟨rfl, rfl⟩)
              go_ret
              exact ⟨⟨_, rfl, by rw [← hvt.out, HD.out, VP.trimR_snoc, if_neg (by rw [HG.out]; simp)]⟩, rfl⟩
          · have hne := isEmpty_true v (by omega)
            have HV := Lib.hid (show v.data.toList = [] from List.eq_nil_of_length_eq_zero (by rw [← size_eq_length]; omega))
            go_wp2_with fail
            go_ret
            exact ⟨⟨_, rfl, by rw [← hvt.out, HV.out]; rfl⟩, rfl⟩
end Go.Proofs.YtodbbfgkclkpgaaGreatDoor
