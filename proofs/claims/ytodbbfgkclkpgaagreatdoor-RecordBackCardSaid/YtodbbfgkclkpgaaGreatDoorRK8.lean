/- The reference's Path: which paths may be. · stanza.name, the reference's Name: how a field may be called. · What the laws share: short; and a call's contract as a word. · The reference's Print, Number: they are the program's. -/
import Derived.Test.YtodbbfgkclkpgaaGreatDoorRK7
import Derived.Test.YtodbbfgkclkpgaaGreatDoorRK5
namespace Go.Proofs.YtodbbfgkclkpgaaGreatDoor
open Go.RowKit

/-! the reference's -/
theorem refOk_at (s : ByteArray) (k : Nat) (hlt : k < s.size) : VP.refOk s.data.toList k = (VP.okP s[k] && !(s[k] == 44) && !(s[k] == 47 && (match s.data.toList[k + 1]? with
    | none => true
    | some d => d == 47))) := by
  unfold VP.refOk
  rw [show s.data.toList[k]? = some s[k] from by rw [List.getElem?_eq_getElem (by rw [← size_eq_length]; exact hlt)]; rfl]
  all_goals rfl
theorem get_next (s : ByteArray) (k : Nat) (hlt : k + 1 < s.size) : s.data.toList[k + 1]? = some (s[k + 1]'hlt) := by
  rw [List.getElem?_eq_getElem (by rw [← size_eq_length]; exact hlt)]; rfl
theorem u8_beq (c : UInt8) (n : Nat) (h : n < 256) : (c == UInt8.ofNat n) = decide (c.toNat = n) := by
  rw [Bool.eq_iff_iff, beq_iff_eq, decide_eq_true_iff]
  constructor
  · rintro rfl; simp; omega
  · intro e; rw [← e]; simp

set_option maxHeartbeats 6000000 in
set_option maxRecDepth 100000 in
theorem refPath_calls (s : ByteArray) (w : World) (hs : s.size ≤ 1000000) : Calls Tryz.prog 19 #[.string s] w (BoolIs (VP.pathP s.data.toList) w) := by
  have hl := size_eq_length s
  have F := Lib.hid (VP.pathP_ref s.data.toList)
  rw [← hl] at F
  have HL := Lib.hid hl
  clear hl
  go_enter Tryz.func19, Tryz.ntmps19
  go_wp2_with fail
  go_loop [6] (fun i => ∃ k : Nat, k ≤ s.size ∧ i = .int .i64 k ∧ Hid (∀ j, j < k → VP.refOk s.data.toList j = true)) (fun i => s.size - (intOf i).toNat)
  case atStart => exact ⟨0, Nat.zero_le _, rfl, fun j h => absurd h (Nat.not_lt_zero _)⟩
  case round =>
    obtain ⟨k, hk, rfl, hall⟩ := hrel
    by_cases hlt : k < s.size
    · have hbt : s[k].toNat < 256 := s[k].toNat_lt
      have hr := Lib.hid (refOk_at s k hlt)
      have hstop := Lib.hid (fun (h : VP.refOk s.data.toList k = false) => VP.allAt_false hlt h)
      have hok := Lib.hid (fun (h : VP.refOk s.data.toList k = true) => (show ∀ j, j < k + 1 → VP.refOk s.data.toList j = true from fun j hj => by
        rcases Nat.lt_or_ge j k with h' | h'
        · exact hall.out j h'
        · obtain rfl : j = k := by omega
          exact h))
      have ho := Lib.hid (show VP.okP s[k] = inB (s[k].toNat : Int) 33 126 by unfold VP.okP inB; rw [Bool.eq_iff_iff]; simp; omega)
      have e44 := Lib.hid (u8_beq s[k] 44 (by omega))
      have e47 := Lib.hid (u8_beq s[k] 47 (by omega))
      obtain ⟨bi, hbi⟩ : ∃ b, inB (s[k].toNat : Int) 33 126 = b := ⟨_, rfl⟩
      have HI := Lib.hid hbi
      have CI := Lib.hid (fun (W : World) => in_calls (s[k].toNat : Int) 33 126 W)
      rw [hbi] at CI
      clear hbi
      cases bi with
      | false =>
        have HF := Lib.hid (show VP.pathP s.data.toList = false by rw [F.out, hstop.out (by rw [hr.out, ho.out, HI.out]; rfl)]; rfl)
        clear hr hstop hok ho e44 e47 HI F HL hall
        go_wp2_with (go_at_call 75; refine (CI.out _).mono ?_; rintro e w' ⟨rfl, rfl⟩)
        go_ret
        exact ⟨ret_bool HF.out.symm, Below.refl _ _⟩
      | true =>
      have hc : s[k].toNat = 44 ∨ (s[k].toNat = 47 ∧ (k + 1 = s.size ∨ ∃ h : k + 1 < s.size, (s[k + 1]'h).toNat = 47)) ∨ (s[k].toNat ≠ 44 ∧ (s[k].toNat ≠ 47 ∨ ∃ h : k + 1 < s.size, (s[k + 1]'h).toNat ≠ 47)) := by
        by_cases h44 : s[k].toNat = 44
        · exact .inl h44
        by_cases h47 : s[k].toNat = 47
        · by_cases hd : k + 1 = s.size
          · exact .inr (.inl ⟨h47, .inl hd⟩)
          · have hlt2 : k + 1 < s.size := by omega
            by_cases h48 : (s[k + 1]'hlt2).toNat = 47
            · exact .inr (.inl ⟨h47, .inr ⟨hlt2, h48⟩⟩)
            · exact .inr (.inr ⟨h44, .inr ⟨hlt2, h48⟩⟩)
        · exact .inr (.inr ⟨h44, .inl h47⟩)
      have b44 : s[k].toNat ≠ 44 → (s[k] == 44) = false := fun h => (u8_beq s[k] 44 (by omega)).trans (decide_eq_false h)
      have c44 : s[k].toNat = 44 → (s[k] == 44) = true := fun h => (u8_beq s[k] 44 (by omega)).trans (decide_eq_true h)
      have c47 : s[k].toNat = 47 → (s[k] == 47) = true := fun h => (u8_beq s[k] 47 (by omega)).trans (decide_eq_true h)
      have b47 : s[k].toNat ≠ 47 → (s[k] == 47) = false := fun h => (u8_beq s[k] 47 (by omega)).trans (decide_eq_false h)
      rcases hc with h44 | ⟨h47, hd | ⟨hlt2, h48⟩⟩ | ⟨h44, h47 | ⟨hlt2, h48⟩⟩
      · have HF := Lib.hid (show VP.pathP s.data.toList = false by rw [F.out, hstop.out (by rw [hr.out, c44 h44]; simp)]; rfl)
        have Ea44 : ((s[k].toNat : Int) == 44) = true := by rw [beq_iff_eq]; omega
        clear hr hstop hok ho e44 e47 HI F HL hall b44 c44 c47 b47 h44
        go_wp2_with (go_at_call 75; refine (CI.out _).mono ?_; rintro e w' ⟨rfl, rfl⟩)
        go_ret
        exact ⟨ret_bool HF.out.symm, Below.refl _ _⟩
      · have hn : s.data.toList[k + 1]? = none := List.getElem?_eq_none (by rw [← HL.out]; omega)
        have HF := Lib.hid (show VP.pathP s.data.toList = false by rw [F.out, hstop.out (by rw [hr.out, hn, c47 h47]; simp)]; rfl)
        have Ea44 : ((s[k].toNat : Int) == 44) = false := by rw [beq_eq_false_iff_ne]; omega
        have Ea47 : ((s[k].toNat : Int) == 47) = true := by rw [beq_iff_eq]; omega
        clear hr hstop hok ho e44 e47 HI F HL hall b44 c44 c47 b47 hn h47
        go_wp2_with (go_at_call 75; refine (CI.out _).mono ?_; rintro e w' ⟨rfl, rfl⟩)
        go_ret
        exact ⟨ret_bool HF.out.symm, Below.refl _ _⟩
      · have hn := get_next s k hlt2
        have hnb : (s[k + 1]'hlt2).toNat < 256 := (s[k + 1]'hlt2).toNat_lt
        have h2 : ((s[k + 1]'hlt2) == 47) = true := (u8_beq (s[k + 1]'hlt2) 47 (by omega)).trans (decide_eq_true h48)
        have HF := Lib.hid (show VP.pathP s.data.toList = false by rw [F.out, hstop.out (by rw [hr.out, hn, c47 h47]; simp [h2])]; rfl)
        have Ea44 : ((s[k].toNat : Int) == 44) = false := by rw [beq_eq_false_iff_ne]; omega
        have Ea47 : ((s[k].toNat : Int) == 47) = true := by rw [beq_iff_eq]; omega
        have Eb47 : (((s[k + 1]'hlt2).toNat : Int) == 47) = true := by rw [beq_iff_eq]; omega
        have hkl : ((k : Int) == (s.size : Int) - 1) = false := by rw [beq_eq_false_iff_ne]; omega
        clear hr hstop hok ho e44 e47 HI F HL hall b44 c44 c47 b47 hn h2 h47 h48
        go_wp2_with (go_at_call 75; refine (CI.out _).mono ?_; rintro e w' ⟨rfl, rfl⟩)
        go_ret
        exact ⟨ret_bool HF.out.symm, Below.refl _ _⟩
      · have HK := Lib.hid (hok.out (by rw [hr.out, ho.out, HI.out, b44 h44, b47 h47]; rfl))
        have Ea44 : ((s[k].toNat : Int) == 44) = false := by rw [beq_eq_false_iff_ne]; omega
        have Ea47 : ((s[k].toNat : Int) == 47) = false := by rw [beq_eq_false_iff_ne]; omega
        clear hr hstop hok ho e44 e47 HI hall b44 c44 c47 b47 h44 h47
        go_wp2_with (go_at_call 75; refine (CI.out _).mono ?_; rintro e w' ⟨rfl, rfl⟩)
        go_round
        case rel => exact ⟨k + 1, by omega, by go_num, HK⟩
        case measure => simp [intOf]; omega
      · have hn := get_next s k hlt2
        have hnb : (s[k + 1]'hlt2).toNat < 256 := (s[k + 1]'hlt2).toNat_lt
        have h2 : ((s[k + 1]'hlt2) == 47) = false := (u8_beq (s[k + 1]'hlt2) 47 (by omega)).trans (decide_eq_false h48)
        have HK := Lib.hid (hok.out (by rw [hr.out, ho.out, HI.out, b44 h44, hn]; simp [h2]))
        have Ea44 : ((s[k].toNat : Int) == 44) = false := by rw [beq_eq_false_iff_ne]; omega
        have Eb47 : (((s[k + 1]'hlt2).toNat : Int) == 47) = false := by rw [beq_eq_false_iff_ne]; omega
        have hkl : ((k : Int) == (s.size : Int) - 1) = false := by rw [beq_eq_false_iff_ne]; omega
        clear hr hstop hok ho e44 e47 HI hall b44 c44 c47 b47 hn h2 h44 h48
        by_cases h47 : s[k].toNat = 47
        · have Ea47 : ((s[k].toNat : Int) == 47) = true := by rw [beq_iff_eq]; omega
          clear h47
          go_wp2_with (go_at_call 75; refine (CI.out _).mono ?_; rintro e w' ⟨rfl, rfl⟩)
          go_round
          case rel => exact ⟨k + 1, by omega, by go_num, HK⟩
          case measure => simp [intOf]; omega
        · have Ea47 : ((s[k].toNat : Int) == 47) = false := by rw [beq_eq_false_iff_ne]; omega
          clear h47
          go_wp2_with (go_at_call 75; refine (CI.out _).mono ?_; rintro e w' ⟨rfl, rfl⟩)
          go_round
          case rel => exact ⟨k + 1, by omega, by go_num, HK⟩
          case measure => simp [intOf]; omega
    · have ha := Lib.hid (show VP.allAt s.size (VP.refOk s.data.toList) = true from VP.allAt_true (fun j hj => hall.out j (by omega)))
      rw [ha.out] at F
      clear hall
      by_cases h0 : s.size = 0
      · have HF := Lib.hid (show VP.pathP s.data.toList = false by rw [F.out, decide_eq_false (by omega : ¬ 1 ≤ s.size)]; rfl)
        have hin := Lib.hid (fun (W : World) => in_calls (s.size : Int) 1 60 W)
        have hf : inB (s.size : Int) 1 60 = false := by unfold inB; rw [decide_eq_false (by omega)]; rfl
        rw [hf] at hin
        clear hf h0 F
        go_wp2_with (go_at_call 75; refine (hin.out _).mono ?_; rintro e w' ⟨rfl, rfl⟩)
        go_ret
        exact ⟨ret_bool HF.out.symm, Below.refl _ _⟩
      have hin := Lib.hid (fun (W : World) => in_calls (s.size : Int) 1 60 W)
      by_cases h60 : s.size ≤ 60
      case neg =>
        have hf : inB (s.size : Int) 1 60 = false := by unfold inB; rw [decide_eq_false (by omega : ¬ (s.size : Int) ≤ 60), Bool.and_false]
        rw [hf] at hin
        clear hf
        go_wp2_with (go_at_call 75; refine (hin.out _).mono ?_; rintro e w' ⟨rfl, rfl⟩)
        go_ret
        exact ⟨ret_bool (by rw [F.out, decide_eq_false h60]; simp), Below.refl _ _⟩
      have hf : inB (s.size : Int) 1 60 = true := by unfold inB; rw [decide_eq_true (by omega), decide_eq_true (by omega)]; rfl
      rw [hf] at hin
      clear hf
      have hst := Lib.hid (startsP_eq s (by omega))
      have G := Lib.hid (show VP.pathP s.data.toList = (VP.lett s[0] || VP.dig s[0]) by rw [F.out, hst.out, decide_eq_true (by omega : 1 ≤ s.size), decide_eq_true h60]; simp)
      clear F hst
      obtain ⟨bd, hbd⟩ : ∃ b, VP.dig s[0] = b := ⟨_, rfl⟩
      obtain ⟨bt, hbt⟩ : ∃ b, VP.lett s[0] = b := ⟨_, rfl⟩
      have CD := Lib.hid (fun (W : World) => digit_calls s[0] W)
      have CL := Lib.hid (fun (W : World) => letter_calls s[0] W)
      rw [hbd] at CD G
      rw [hbt] at CL G
      clear hbd hbt
      cases bd with
      | true =>
        go_wp2_with (first | (go_at_call 75; refine (hin.out _).mono ?_; rintro e w' ⟨rfl, rfl⟩) | (go_at_call 76; refine (CD.out _).mono ?_; rintro e w' ⟨rfl, rfl⟩))
        go_ret
        exact ⟨ret_bool (by rw [G.out]; simp), Below.refl _ _⟩
      | false =>
        go_wp2_with (first | (go_at_call 75; refine (hin.out _).mono ?_; rintro e w' ⟨rfl, rfl⟩) | (go_at_call 76; refine (CD.out _).mono ?_; rintro e w' ⟨rfl, rfl⟩) | (go_at_call 77; refine (CL.out _).mono ?_; rintro e w' ⟨rfl, rfl⟩))
        go_ret
        exact ⟨ret_bool (by rw [G.out]; simp), Below.refl _ _⟩
end Go.Proofs.YtodbbfgkclkpgaaGreatDoor

namespace Go.Proofs.YtodbbfgkclkpgaaGreatDoor
open Go.RowKit

theorem fname_bad {s : ByteArray} {k : Nat} (hlt : k < s.size) (h : VP.okN s[k] = false) : VP.fnameP s.data.toList = false := by
  have : s.data.toList.all VP.okN = false := by
    rw [← List.take_append_drop k s.data.toList, drop_cons s k hlt, List.all_append, List.all_cons, h]
    simp
  unfold VP.fnameP
  rw [this]
  rfl
/-- what is left when all bytes are well -/
theorem fname_rest {s : ByteArray} (h : s.data.toList.all VP.okN = true) : VP.fnameP s.data.toList = (decide (1 ≤ s.size) && decide (s.size ≤ 24) && !(s.data.toList.head? == some 35) && !(s.data.toList.head? == some 45)) := by
  unfold VP.fnameP
  rw [h, ← size_eq_length]
  rfl
theorem head_at (s : ByteArray) (h : 0 < s.size) (n : Nat) (hn : n < 256) : (s.data.toList.head? == some (UInt8.ofNat n)) = decide (s[0].toNat = n) := by
  rw [list_cons s h]
  show (some s[0] == some (UInt8.ofNat n)) = _
  rw [← u8_beq s[0] n hn]
  rfl
theorem beqI {n k : Nat} (m : Int) (hm : m = (k : Int)) (h : n = k) : ((n : Int) == m) = true := by rw [beq_iff_eq]; omega
theorem beqI_ne {n k : Nat} (m : Int) (hm : m = (k : Int)) (h : n ≠ k) : ((n : Int) == m) = false := by rw [beq_eq_false_iff_ne]; omega
theorem bneI {n k : Nat} (m : Int) (hm : m = (k : Int)) (h : n = k) : ((n : Int) != m) = false := by rw [bne, beqI m hm h]; rfl
theorem bneI_ne {n k : Nat} (m : Int) (hm : m = (k : Int)) (h : n ≠ k) : ((n : Int) != m) = true := by rw [bne, beqI_ne m hm h]; rfl

set_option maxHeartbeats 2000000 in
set_option maxRecDepth 100000 in
theorem fname_calls (s : ByteArray) (w : World) (hs : s.size ≤ 1000000) : Calls Tryz.prog 129 #[.string s] w fun E w' => E = .returned (.bool (VP.fnameP s.data.toList)) ∧ w = w' := by
  have HL := Lib.hid (size_eq_length s)
  go_enter Tryz.func129, Tryz.ntmps129
  go_wp2_with fail
  go_loop [6] (fun i => ∃ k : Nat, k ≤ s.size ∧ i = .int .i64 k ∧ Hid ((s.data.toList.take k).all VP.okN = true)) (fun i => s.size - (intOf i).toNat)
  case atStart => exact ⟨0, Nat.zero_le _, rfl, rfl⟩
  case round =>
    obtain ⟨k, hk, rfl, hall⟩ := hrel
    by_cases hlt : k < s.size
    · have hbt : s[k].toNat < 256 := s[k].toNat_lt
      have hts := Lib.hid (take_snoc s k hlt)
      have ho : VP.okN s[k] = (decide (33 ≤ s[k].toNat) && decide (s[k].toNat ≤ 126) && !decide (s[k].toNat = 58)) := by
        unfold VP.okN
        rw [show (s[k] == 58) = decide (s[k].toNat = 58) from u8_beq s[k] 58 (by omega)]
      by_cases hok : VP.okN s[k] = true
      · have HK := Lib.hid (show (s.data.toList.take (k + 1)).all VP.okN = true by rw [hts.out, List.all_append, hall.out]; simp [hok])
        rw [ho] at hok
        simp only [Bool.and_eq_true, decide_eq_true_eq, Bool.not_eq_true', decide_eq_false_iff_not] at hok
        obtain ⟨⟨h1, h2⟩, h3⟩ := hok
        have hb := beqI_ne 58 rfl h3
        clear ho hts hall h3
        go_wp2_with fail
        go_round
        case rel => exact ⟨k + 1, by omega, by go_num, HK⟩
        case measure => simp [intOf]; omega
      · have HF := Lib.hid (fname_bad hlt (Bool.eq_false_iff.2 hok))
        have hc : s[k].toNat < 33 ∨ 126 < s[k].toNat ∨ (33 ≤ s[k].toNat ∧ s[k].toNat ≤ 126 ∧ s[k].toNat = 58) := by
          rw [ho] at hok
          simp only [Bool.and_eq_true, decide_eq_true_eq, Bool.not_eq_true', decide_eq_false_iff_not] at hok
          omega
        clear ho hok hts hall HL
        rcases hc with h | h | ⟨h1, h2, h3⟩
        · go_wp2_with fail
          go_ret
          exact ⟨ret_bool HF.out.symm, rfl⟩
        · go_wp2_with fail
          go_ret
          exact ⟨ret_bool HF.out.symm, rfl⟩
        · have hb := beqI 58 rfl h3
          clear h3
          go_wp2_with fail
          go_ret
          exact ⟨ret_bool HF.out.symm, rfl⟩
    · have ha : s.data.toList.all VP.okN = true := by
        have hl := HL.out
        have := hall.out
        rwa [List.take_of_length_le (by omega)] at this
      have F := Lib.hid (fname_rest ha)
      clear ha hall
      by_cases h0 : s.size = 0
      · have HF := Lib.hid (show VP.fnameP s.data.toList = false by rw [F.out, decide_eq_false (by omega : ¬ 1 ≤ s.size)]; rfl)
        have hz := isEmpty_true s h0
        clear F
        go_wp2_with fail
        go_ret
        exact ⟨ret_bool HF.out.symm, rfl⟩
      have hz := isEmpty_false s (by omega)
      by_cases h24 : s.size ≤ 24
      case neg =>
        have HF := Lib.hid (show VP.fnameP s.data.toList = false by rw [F.out, decide_eq_false h24]; simp)
        clear F
        go_wp2_with fail
        go_ret
        exact ⟨ret_bool HF.out.symm, rfl⟩
      have hpos : 0 < s.size := by omega
      have hbt : (s[0]'hpos).toNat < 256 := (s[0]'hpos).toNat_lt
      have G : VP.fnameP s.data.toList = (!decide ((s[0]'hpos).toNat = 35) && !decide ((s[0]'hpos).toNat = 45)) := by
        rw [F.out, show (s.data.toList.head? == some 35) = _ from head_at s hpos 35 (by omega), show (s.data.toList.head? == some 45) = _ from head_at s hpos 45 (by omega), decide_eq_true (by omega : 1 ≤ s.size), decide_eq_true h24]
        rfl
      by_cases h35 : (s[0]'hpos).toNat = 35
      · have HF := Lib.hid (show VP.fnameP s.data.toList = false by rw [G, decide_eq_true h35]; rfl)
        have hb := bneI 35 rfl h35
        clear F G h35
        go_wp2_with fail
        go_ret
        exact ⟨ret_bool HF.out.symm, rfl⟩
      · by_cases h45 : (s[0]'hpos).toNat = 45
        · have HF := Lib.hid (show VP.fnameP s.data.toList = false by rw [G, decide_eq_true h45]; simp)
          have hb := bneI_ne 35 rfl h35
          have hb' := bneI 45 rfl h45
          clear F G h35 h45
          go_wp2_with fail
          go_ret
          exact ⟨ret_bool HF.out.symm, rfl⟩
        · have HF := Lib.hid (show VP.fnameP s.data.toList = true by rw [G, decide_eq_false h35, decide_eq_false h45]; rfl)
          have hb := bneI_ne 35 rfl h35
          have hb' := bneI_ne 45 rfl h45
          clear F G h35 h45
          go_wp2_with fail
          go_ret
          exact ⟨ret_bool HF.out.symm, rfl⟩

set_option maxHeartbeats 2000000 in
set_option maxRecDepth 100000 in
theorem refName_calls (s : ByteArray) (w : World) (hs : s.size ≤ 1000000) : Calls Tryz.prog 124 #[.string s] w fun E w' => E = .returned (.bool (VP.fnameP s.data.toList)) ∧ w = w' := by
  have HL := Lib.hid (size_eq_length s)
  go_enter Tryz.func124, Tryz.ntmps124
  go_wp2_with fail
  go_loop [6] (fun i => ∃ k : Nat, k ≤ s.size ∧ i = .int .i64 k ∧ Hid ((s.data.toList.take k).all VP.okN = true)) (fun i => s.size - (intOf i).toNat)
  case atStart => exact ⟨0, Nat.zero_le _, rfl, rfl⟩
  case round =>
    obtain ⟨k, hk, rfl, hall⟩ := hrel
    by_cases hlt : k < s.size
    · have hbt : s[k].toNat < 256 := s[k].toNat_lt
      have hts := Lib.hid (take_snoc s k hlt)
      have ho : VP.okN s[k] = (decide (33 ≤ s[k].toNat) && decide (s[k].toNat ≤ 126) && !decide (s[k].toNat = 58)) := by
        unfold VP.okN
        rw [show (s[k] == 58) = decide (s[k].toNat = 58) from u8_beq s[k] 58 (by omega)]
      obtain ⟨bi, hbi⟩ : ∃ b, inB (s[k].toNat : Int) 33 126 = b := ⟨_, rfl⟩
      have CI := Lib.hid (fun (W : World) => in_calls (s[k].toNat : Int) 33 126 W)
      rw [hbi] at CI
      have hin : (33 ≤ s[k].toNat ∧ s[k].toNat ≤ 126) ↔ bi = true := by
        rw [← hbi]; unfold inB; simp; omega
      clear hbi
      by_cases hok : VP.okN s[k] = true
      · have HK := Lib.hid (show (s.data.toList.take (k + 1)).all VP.okN = true by rw [hts.out, List.all_append, hall.out]; simp [hok])
        rw [ho] at hok
        simp only [Bool.and_eq_true, decide_eq_true_eq, Bool.not_eq_true', decide_eq_false_iff_not] at hok
        obtain ⟨⟨h1, h2⟩, h3⟩ := hok
        obtain rfl := hin.1 ⟨h1, h2⟩
        have hb := beqI_ne 58 rfl h3
        clear ho hts hall h3 hin h1 h2
        go_wp2_with (go_at_call 75; refine (CI.out _).mono ?_; rintro e w' ⟨rfl, rfl⟩)
        go_round
        case rel => exact ⟨k + 1, by omega, by go_num, HK⟩
        case measure => simp [intOf]; omega
      · have HF := Lib.hid (fname_bad hlt (Bool.eq_false_iff.2 hok))
        have hc : bi = false ∨ (bi = true ∧ s[k].toNat = 58) := by
          rw [ho] at hok
          simp only [Bool.and_eq_true, decide_eq_true_eq, Bool.not_eq_true', decide_eq_false_iff_not] at hok
          cases bi with
          | false => exact .inl rfl
          | true => exact .inr ⟨rfl, by have := hin.2 rfl; omega⟩
        clear ho hok hts hall HL hin
        rcases hc with rfl | ⟨rfl, h3⟩
        · go_wp2_with (go_at_call 75; refine (CI.out _).mono ?_; rintro e w' ⟨rfl, rfl⟩)
          go_ret
          exact ⟨ret_bool HF.out.symm, rfl⟩
        · have hb := beqI 58 rfl h3
          clear h3
          go_wp2_with (go_at_call 75; refine (CI.out _).mono ?_; rintro e w' ⟨rfl, rfl⟩)
          go_ret
          exact ⟨ret_bool HF.out.symm, rfl⟩
    · have ha : s.data.toList.all VP.okN = true := by
        have hl := HL.out
        have := hall.out
        rwa [List.take_of_length_le (by omega)] at this
      have F := Lib.hid (fname_rest ha)
      clear ha hall
      obtain ⟨bi, hbi⟩ : ∃ b, inB (s.size : Int) 1 24 = b := ⟨_, rfl⟩
      have CI := Lib.hid (fun (W : World) => in_calls (s.size : Int) 1 24 W)
      rw [hbi] at CI
      cases bi with
      | false =>
        have HF := Lib.hid (show VP.fnameP s.data.toList = false by
          have e : (decide (1 ≤ s.size) && decide (s.size ≤ 24)) = false := by
            rw [← hbi]; unfold inB; rw [Bool.eq_iff_iff]; simp; omega
          rw [F.out, e]; rfl)
        clear F hbi
        go_wp2_with (go_at_call 75; refine (CI.out _).mono ?_; rintro e w' ⟨rfl, rfl⟩)
        go_ret
        exact ⟨ret_bool HF.out.symm, rfl⟩
      | true =>
      have h24 : 1 ≤ s.size ∧ s.size ≤ 24 := by
        unfold inB at hbi
        simp at hbi
        omega
      have hpos : 0 < s.size := by omega
      have hbt : (s[0]'hpos).toNat < 256 := (s[0]'hpos).toNat_lt
      have G : VP.fnameP s.data.toList = (!decide ((s[0]'hpos).toNat = 35) && !decide ((s[0]'hpos).toNat = 45)) := by
        rw [F.out, show (s.data.toList.head? == some 35) = _ from head_at s hpos 35 (by omega), show (s.data.toList.head? == some 45) = _ from head_at s hpos 45 (by omega), decide_eq_true h24.1, decide_eq_true h24.2]
        rfl
      clear hbi h24
      by_cases h35 : (s[0]'hpos).toNat = 35
      · have HF := Lib.hid (show VP.fnameP s.data.toList = false by rw [G, decide_eq_true h35]; rfl)
        have hb := bneI 35 rfl h35
        clear F G h35
        go_wp2_with (go_at_call 75; refine (CI.out _).mono ?_; rintro e w' ⟨rfl, rfl⟩)
        go_ret
        exact ⟨ret_bool HF.out.symm, rfl⟩
      · by_cases h45 : (s[0]'hpos).toNat = 45
        · have HF := Lib.hid (show VP.fnameP s.data.toList = false by rw [G, decide_eq_true h45]; simp)
          have hb := bneI_ne 35 rfl h35
          have hb' := bneI 45 rfl h45
          clear F G h35 h45
          go_wp2_with (go_at_call 75; refine (CI.out _).mono ?_; rintro e w' ⟨rfl, rfl⟩)
          go_ret
          exact ⟨ret_bool HF.out.symm, rfl⟩
        · have HF := Lib.hid (show VP.fnameP s.data.toList = true by rw [G, decide_eq_false h35, decide_eq_false h45]; rfl)
          have hb := bneI_ne 35 rfl h35
          have hb' := bneI_ne 45 rfl h45
          clear F G h35 h45
          go_wp2_with (go_at_call 75; refine (CI.out _).mono ?_; rintro e w' ⟨rfl, rfl⟩)
          go_ret
          exact ⟨ret_bool HF.out.symm, rfl⟩
end Go.Proofs.YtodbbfgkclkpgaaGreatDoor

namespace Go.Proofs.YtodbbfgkclkpgaaGreatDoor
open Go.RowKit

/-- from any world that has grown out of w, this call returns v, and the world grows -/
def Gives (w : World) (f : Nat) (args : Array Value) (v : Value) : Prop :=
  ∀ W, Below w.heap.size w W → Calls Tryz.prog f args W fun E W' => E = .returned v ∧ Below W.heap.size W W'
theorem Gives.at {w : World} {f : Nat} {args : Array Value} {v : Value} (h : Gives w f args v) (W : World) (hb : Below w.heap.size w W) : Calls Tryz.prog f args W fun E W' => E = .returned v ∧ Below W.heap.size W W' := h W hb

set_option maxRecDepth 100000 in
theorem lawShort_calls (e : Int) (u r : ByteArray) (w : World) :
    Calls Tryz.prog 40 #[.agg #[.int .i64 e, .string u, .string r]] w (BoolIs (shortB u r) w) := by
  have hb0 := below_alloc w (.cells #[.int .i64 e, .string u, .string r] 23)
  by_cases h1 : u.size ≤ 100
  · by_cases h2 : r.size ≤ 100
    · have F := Lib.hid (show shortB u r = true by unfold shortB; simp [h1, h2])
      go_enter Tryz.func40, Tryz.ntmps40
      go_wp2
      go_ret
      exact ⟨ret_bool (by rw [F.out] <;> simp <;> omega), hb0⟩
    · have F := Lib.hid (show shortB u r = false by unfold shortB; simp [h2])
      go_enter Tryz.func40, Tryz.ntmps40
      go_wp2
      go_ret
      exact ⟨ret_bool (by rw [F.out] <;> simp <;> omega), hb0⟩
  · have F := Lib.hid (show shortB u r = false by unfold shortB; simp [h1])
    go_enter Tryz.func40, Tryz.ntmps40
    go_wp2
    go_ret
    exact ⟨ret_bool (by rw [F.out] <;> simp <;> omega), hb0⟩
end Go.Proofs.YtodbbfgkclkpgaaGreatDoor

namespace Go.Proofs.YtodbbfgkclkpgaaGreatDoor
open Go.RowKit

set_option maxRecDepth 100000 in
theorem refPrint_calls (e : Int) (u r : ByteArray) (w : World) (hE : Env w) (h0 : -9223372036854775808 ≤ e) (h1 : e ≤ 9223372036854775807) (hu : u.size ≤ 1000000) (hr : r.size ≤ 1000000) :
    Calls Tryz.prog 52 #[.agg #[.int .i64 e, .string u, .string r]] w (PrintIs e u r w) := by
  have hb0 := below_alloc w (.cells #[.int .i64 e, .string u, .string r] 23)
  have hE1 := hE.below hb0
  clear hE
  have hr' : r.size = 0 ∨ 0 < r.size := by omega
  by_cases he : e = 0
  · subst he
    rcases hr' with hr' | hr'
    · have hz := isEmpty_true r hr'
      have er := eq_empty r hr'
      subst er
      clear hr' hr
      go_enter Tryz.func52, Tryz.ntmps52
      go_wp2
      go_ret
      exact ⟨_, rfl, by simp [VP.printP], hb0⟩
    · have hz := isEmpty_false r hr'
      have Hr := Lib.hid (printP_rev r hr')
      go_enter Tryz.func52, Tryz.ntmps52
      go_wp2
      go_ret
      exact ⟨_, rfl, by simp [VP.printP, Hr.out], hb0⟩
  · have hb : (e != 0) = true := by rw [bne_iff_ne]; exact he
    have HE := Lib.hid he
    clear he
    rcases hr' with hr' | hr'
    · have hz := isEmpty_true r hr'
      have er := eq_empty r hr'
      subst er
      clear hr' hr
      go_enter Tryz.func52, Tryz.ntmps52
      go_wp2_with fail
      refine (call_itoa _ _ hE1 h0 h1).mono ?_
      rintro E w1 ⟨t, rfl, ht, hts, hb1⟩
      have hB := step_below hb0 hb1
      obtain ⟨c0, c1, c2⟩ := box3 hb1
      clear hb1
      have Ht := Lib.hid ht
      clear ht
      go_wp2
      go_ret
      exact ⟨_, rfl, by simp [VP.printP, Ht.out, HE.out], hB⟩
    · have hz := isEmpty_false r hr'
      have Hr := Lib.hid (printP_rev r hr')
      go_enter Tryz.func52, Tryz.ntmps52
      go_wp2_with fail
      refine (call_itoa _ _ hE1 h0 h1).mono ?_
      rintro E w1 ⟨t, rfl, ht, hts, hb1⟩
      have hB := step_below hb0 hb1
      obtain ⟨c0, c1, c2⟩ := box3 hb1
      clear hb1
      have Ht := Lib.hid ht
      clear ht
      go_wp2
      go_ret
      exact ⟨_, rfl, by simp [VP.printP, Ht.out, HE.out, Hr.out], hB⟩
end Go.Proofs.YtodbbfgkclkpgaaGreatDoor
