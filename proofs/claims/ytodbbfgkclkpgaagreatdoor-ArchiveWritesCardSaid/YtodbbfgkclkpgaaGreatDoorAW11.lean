/- The reference's Path: which paths may be. · What the laws share: short; and a call's contract as a word. · The reference's Print, Number: they are the program's. -/
import Derived.Test.YtodbbfgkclkpgaaGreatDoorAW10
import Derived.Test.YtodbbfgkclkpgaaGreatDoorAW7
namespace Go.Proofs.YtodbbfgkclkpgaaGreatDoor
open Go.RowKit

/-! the reference's -/
theorem refOk_at (s : ByteArray) (k : Nat) (hlt : k < s.size) : VP.refOk s.data.toList k = (VP.okP s[k] && !(s[k] == 44) && !(s[k] == 47 && (match s.data.toList[k + 1]? with
    | none => true
    | some d => d == 47))) := by
  unfold VP.refOk
  rw [show s.data.toList[k]? = some s[k] from by rw [List.getElem?_eq_getElem (by rw [← size_eq_length]; exact hlt)]; rfl]
  all_goals rfl
theorem get_next (s : ByteArray) (k : Nat) (hlt : k + 1 < s.size) : s.data.toList[k + 1]? = some (s[k + 1]'hlt) := by
  rw [List.getElem?_eq_getElem (by rw [← size_eq_length]; exact hlt)]; rfl
theorem u8_beq (c : UInt8) (n : Nat) (h : n < 256) : (c == UInt8.ofNat n) = decide (c.toNat = n) := by
  rw [Bool.eq_iff_iff, beq_iff_eq, decide_eq_true_iff]
  constructor
  · rintro rfl; simp; omega
  · intro e; rw [← e]; simp

set_option maxHeartbeats 6000000 in
set_option maxRecDepth 100000 in
theorem refPath_calls (s : ByteArray) (w : World) (hs : s.size ≤ 1000000) : Calls Tryz.prog 19 #[.string s] w (BoolIs (VP.pathP s.data.toList) w) := by
  have hl := size_eq_length s
  have F := Lib.hid (VP.pathP_ref s.data.toList)
  rw [← hl] at F
  have HL := Lib.hid hl
  clear hl
  go_enter Tryz.func19, Tryz.ntmps19
  go_wp2_with fail
  go_loop [6] (fun i => ∃ k : Nat, k ≤ s.size ∧ i = .int .i64 k ∧ Hid (∀ j, j < k → VP.refOk s.data.toList j = true)) (fun i => s.size - (intOf i).toNat)
  case atStart => exact ⟨0, Nat.zero_le _, rfl, fun j h => absurd h (Nat.not_lt_zero _)⟩
  case round =>
    obtain ⟨k, hk, rfl, hall⟩ := hrel
    by_cases hlt : k < s.size
    · have hbt : s[k].toNat < 256 := s[k].toNat_lt
      have hr := Lib.hid (refOk_at s k hlt)
      have hstop := Lib.hid (fun (h : VP.refOk s.data.toList k = false) => VP.allAt_false hlt h)
      have hok := Lib.hid (fun (h : VP.refOk s.data.toList k = true) => (show ∀ j, j < k + 1 → VP.refOk s.data.toList j = true from fun j hj => by
        rcases Nat.lt_or_ge j k with h' | h'
        · exact hall.out j h'
        · obtain rfl : j = k := by omega
          exact h))
      have ho := Lib.hid (show VP.okP s[k] = inB (s[k].toNat : Int) 33 126 by unfold VP.okP inB; rw [Bool.eq_iff_iff]; simp; omega)
      have e44 := Lib.hid (u8_beq s[k] 44 (by omega))
      have e47 := Lib.hid (u8_beq s[k] 47 (by omega))
      obtain ⟨bi, hbi⟩ : ∃ b, inB (s[k].toNat : Int) 33 126 = b := ⟨_, rfl⟩
      have HI := Lib.hid hbi
      have CI := Lib.hid (fun (W : World) => in_calls (s[k].toNat : Int) 33 126 W)
      rw [hbi] at CI
      clear hbi
      cases bi with
      | false =>
        have HF := Lib.hid (show VP.pathP s.data.toList = false by rw [F.out, hstop.out (by rw [hr.out, ho.out, HI.out]; rfl)]; rfl)
        clear hr hstop hok ho e44 e47 HI F HL hall
        go_wp2_with (go_at_call 75; refine (CI.out _).mono ?_; rintro e w' ⟨rfl, rfl⟩)
        go_ret
        exact ⟨ret_bool HF.out.symm, Below.refl _ _⟩
      | true =>
      have hc : s[k].toNat = 44 ∨ (s[k].toNat = 47 ∧ (k + 1 = s.size ∨ ∃ h : k + 1 < s.size, (s[k + 1]'h).toNat = 47)) ∨ (s[k].toNat ≠ 44 ∧ (s[k].toNat ≠ 47 ∨ ∃ h : k + 1 < s.size, (s[k + 1]'h).toNat ≠ 47)) := by
        by_cases h44 : s[k].toNat = 44
        · exact .inl h44
        by_cases h47 : s[k].toNat = 47
        · by_cases hd : k + 1 = s.size
          · exact .inr (.inl ⟨h47, .inl hd⟩)
          · have hlt2 : k + 1 < s.size := by omega
            by_cases h48 : (s[k + 1]'hlt2).toNat = 47
            · exact .inr (.inl ⟨h47, .inr ⟨hlt2, h48⟩⟩)
            · exact .inr (.inr ⟨h44, .inr ⟨hlt2, h48⟩⟩)
        · exact .inr (.inr ⟨h44, .inl h47⟩)
      have b44 : s[k].toNat ≠ 44 → (s[k] == 44) = false := fun h => (u8_beq s[k] 44 (by omega)).trans (decide_eq_false h)
      have c44 : s[k].toNat = 44 → (s[k] == 44) = true := fun h => (u8_beq s[k] 44 (by omega)).trans (decide_eq_true h)
      have c47 : s[k].toNat = 47 → (s[k] == 47) = true := fun h => (u8_beq s[k] 47 (by omega)).trans (decide_eq_true h)
      have b47 : s[k].toNat ≠ 47 → (s[k] == 47) = false := fun h => (u8_beq s[k] 47 (by omega)).trans (decide_eq_false h)
      rcases hc with h44 | ⟨h47, hd | ⟨hlt2, h48⟩⟩ | ⟨h44, h47 | ⟨hlt2, h48⟩⟩
      · have HF := Lib.hid (show VP.pathP s.data.toList = false by rw [F.out, hstop.out (by rw [hr.out, c44 h44]; simp)]; rfl)
        have Ea44 : ((s[k].toNat : Int) == 44) = true := by rw [beq_iff_eq]; omega
        clear hr hstop hok ho e44 e47 HI F HL hall b44 c44 c47 b47 h44
        go_wp2_with (go_at_call 75; refine (CI.out _).mono ?_; rintro e w' ⟨rfl, rfl⟩)
        go_ret
        exact ⟨ret_bool HF.out.symm, Below.refl _ _⟩
      · have hn : s.data.toList[k + 1]? = none := List.getElem?_eq_none (by rw [← HL.out]; omega)
        have HF := Lib.hid (show VP.pathP s.data.toList = false by rw [F.out, hstop.out (by rw [hr.out, hn, c47 h47]; simp)]; rfl)
        have Ea44 : ((s[k].toNat : Int) == 44) = false := by rw [beq_eq_false_iff_ne]; omega
        have Ea47 : ((s[k].toNat : Int) == 47) = true := by rw [beq_iff_eq]; omega
        clear hr hstop hok ho e44 e47 HI F HL hall b44 c44 c47 b47 hn h47
        go_wp2_with (go_at_call 75; refine (CI.out _).mono ?_; rintro e w' ⟨rfl, rfl⟩)
        go_ret
        exact ⟨ret_bool HF.out.symm, Below.refl _ _⟩
      · have hn := get_next s k hlt2
        have hnb : (s[k + 1]'hlt2).toNat < 256 := (s[k + 1]'hlt2).toNat_lt
        have h2 : ((s[k + 1]'hlt2) == 47) = true := (u8_beq (s[k + 1]'hlt2) 47 (by omega)).trans (decide_eq_true h48)
        have HF := Lib.hid (show VP.pathP s.data.toList = false by rw [F.out, hstop.out (by rw [hr.out, hn, c47 h47]; simp [h2])]; rfl)
        have Ea44 : ((s[k].toNat : Int) == 44) = false := by rw [beq_eq_false_iff_ne]; omega
        have Ea47 : ((s[k].toNat : Int) == 47) = true := by rw [beq_iff_eq]; omega
        have Eb47 : (((s[k + 1]'hlt2).toNat : Int) == 47) = true := by rw [beq_iff_eq]; omega
        have hkl : ((k : Int) == (s.size : Int) - 1) = false := by rw [beq_eq_false_iff_ne]; omega
        clear hr hstop hok ho e44 e47 HI F HL hall b44 c44 c47 b47 hn h2 h47 h48
        go_wp2_with (go_at_call 75; refine (CI.out _).mono ?_; rintro e w' ⟨rfl, rfl⟩)
        go_ret
        exact ⟨ret_bool HF.out.symm, Below.refl _ _⟩
      · have HK := Lib.hid (hok.out (by rw [hr.out, ho.out, HI.out, b44 h44, b47 h47]; rfl))
        have Ea44 : ((s[k].toNat : Int) == 44) = false := by rw [beq_eq_false_iff_ne]; omega
        have Ea47 : ((s[k].toNat : Int) == 47) = false := by rw [beq_eq_false_iff_ne]; omega
        clear hr hstop hok ho e44 e47 HI hall b44 c44 c47 b47 h44 h47
        go_wp2_with (go_at_call 75; refine (CI.out _).mono ?_; rintro e w' ⟨rfl, rfl⟩)
        go_round
        case rel => exact ⟨k + 1, by omega, by go_num, HK⟩
        case measure => simp [intOf]; omega
      · have hn := get_next s k hlt2
        have hnb : (s[k + 1]'hlt2).toNat < 256 := (s[k + 1]'hlt2).toNat_lt
        have h2 : ((s[k + 1]'hlt2) == 47) = false := (u8_beq (s[k + 1]'hlt2) 47 (by omega)).trans (decide_eq_false h48)
        have HK := Lib.hid (hok.out (by rw [hr.out, ho.out, HI.out, b44 h44, hn]; simp [h2]))
        have Ea44 : ((s[k].toNat : Int) == 44) = false := by rw [beq_eq_false_iff_ne]; omega
        have Eb47 : (((s[k + 1]'hlt2).toNat : Int) == 47) = false := by rw [beq_eq_false_iff_ne]; omega
        have hkl : ((k : Int) == (s.size : Int) - 1) = false := by rw [beq_eq_false_iff_ne]; omega
        clear hr hstop hok ho e44 e47 HI hall b44 c44 c47 b47 hn h2 h44 h48
        by_cases h47 : s[k].toNat = 47
        · have Ea47 : ((s[k].toNat : Int) == 47) = true := by rw [beq_iff_eq]; omega
          clear h47
          go_wp2_with (go_at_call 75; refine (CI.out _).mono ?_; rintro e w' ⟨rfl, rfl⟩)
          go_round
          case rel => exact ⟨k + 1, by omega, by go_num, HK⟩
          case measure => simp [intOf]; omega
        · have Ea47 : ((s[k].toNat : Int) == 47) = false := by rw [beq_eq_false_iff_ne]; omega
          clear h47
          go_wp2_with (go_at_call 75; refine (CI.out _).mono ?_; rintro e w' ⟨rfl, rfl⟩)
          go_round
          case rel => exact ⟨k + 1, by omega, by go_num, HK⟩
          case measure => simp [intOf]; omega
    · have ha := Lib.hid (show VP.allAt s.size (VP.refOk s.data.toList) = true from VP.allAt_true (fun j hj => hall.out j (by omega)))
      rw [ha.out] at F
      clear hall
      by_cases h0 : s.size = 0
      · have HF := Lib.hid (show VP.pathP s.data.toList = false by rw [F.out, decide_eq_false (by omega : ¬ 1 ≤ s.size)]; rfl)
        have hin := Lib.hid (fun (W : World) => in_calls (s.size : Int) 1 60 W)
        have hf : inB (s.size : Int) 1 60 = false := by unfold inB; rw [decide_eq_false (by omega)]; rfl
        rw [hf] at hin
        clear hf h0 F
        go_wp2_with (go_at_call 75; refine (hin.out _).mono ?_; rintro e w' ⟨rfl, rfl⟩)
        go_ret
        exact ⟨ret_bool HF.out.symm, Below.refl _ _⟩
      have hin := Lib.hid (fun (W : World) => in_calls (s.size : Int) 1 60 W)
      by_cases h60 : s.size ≤ 60
      case neg =>
        have hf : inB (s.size : Int) 1 60 = false := by unfold inB; rw [decide_eq_false (by omega : ¬ (s.size : Int) ≤ 60), Bool.and_false]
        rw [hf] at hin
        clear hf
        go_wp2_with (go_at_call 75; refine (hin.out _).mono ?_; rintro e w' ⟨rfl, rfl⟩)
        go_ret
        exact ⟨ret_bool (by rw [F.out, decide_eq_false h60]; simp), Below.refl _ _⟩
      have hf : inB (s.size : Int) 1 60 = true := by unfold inB; rw [decide_eq_true (by omega), decide_eq_true (by omega)]; rfl
      rw [hf] at hin
      clear hf
      have hst := Lib.hid (startsP_eq s (by omega))
      have G := Lib.hid (show VP.pathP s.data.toList = (VP.lett s[0] || VP.dig s[0]) by rw [F.out, hst.out, decide_eq_true (by omega : 1 ≤ s.size), decide_eq_true h60]; simp)
      clear F hst
      obtain ⟨bd, hbd⟩ : ∃ b, VP.dig s[0] = b := ⟨_, rfl⟩
      obtain ⟨bt, hbt⟩ : ∃ b, VP.lett s[0] = b := ⟨_, rfl⟩
      have CD := Lib.hid (fun (W : World) => digit_calls s[0] W)
      have CL := Lib.hid (fun (W : World) => letter_calls s[0] W)
      rw [hbd] at CD G
      rw [hbt] at CL G
      clear hbd hbt
      cases bd with
      | true =>
        go_wp2_with (first | (go_at_call 75; refine (hin.out _).mono ?_; rintro e w' ⟨rfl, rfl⟩) | (go_at_call 76; refine (CD.out _).mono ?_; rintro e w' ⟨rfl, rfl⟩))
        go_ret
        exact ⟨ret_bool (by rw [G.out]; simp), Below.refl _ _⟩
      | false =>
        go_wp2_with (first | (go_at_call 75; refine (hin.out _).mono ?_; rintro e w' ⟨rfl, rfl⟩) | (go_at_call 76; refine (CD.out _).mono ?_; rintro e w' ⟨rfl, rfl⟩) | (go_at_call 77; refine (CL.out _).mono ?_; rintro e w' ⟨rfl, rfl⟩))
        go_ret
        exact ⟨ret_bool (by rw [G.out]; simp), Below.refl _ _⟩
end Go.Proofs.YtodbbfgkclkpgaaGreatDoor

namespace Go.Proofs.YtodbbfgkclkpgaaGreatDoor
open Go.RowKit

/-- from any world that has grown out of w, this call returns v, and the world grows -/
def Gives (w : World) (f : Nat) (args : Array Value) (v : Value) : Prop :=
  ∀ W, Below w.heap.size w W → Calls Tryz.prog f args W fun E W' => E = .returned v ∧ Below W.heap.size W W'
theorem Gives.at {w : World} {f : Nat} {args : Array Value} {v : Value} (h : Gives w f args v) (W : World) (hb : Below w.heap.size w W) : Calls Tryz.prog f args W fun E W' => E = .returned v ∧ Below W.heap.size W W' := h W hb

set_option maxRecDepth 100000 in
theorem lawShort_calls (e : Int) (u r : ByteArray) (w : World) :
    Calls Tryz.prog 40 #[.agg #[.int .i64 e, .string u, .string r]] w (BoolIs (shortB u r) w) := by
  have hb0 := below_alloc w (.cells #[.int .i64 e, .string u, .string r] 23)
  by_cases h1 : u.size ≤ 100
  · by_cases h2 : r.size ≤ 100
    · have F := Lib.hid (show shortB u r = true by unfold shortB; simp [h1, h2])
      go_enter Tryz.func40, Tryz.ntmps40
      go_wp2
      go_ret
      exact ⟨ret_bool (by rw [F.out] <;> simp <;> omega), hb0⟩
    · have F := Lib.hid (show shortB u r = false by unfold shortB; simp [h2])
      go_enter Tryz.func40, Tryz.ntmps40
      go_wp2
      go_ret
      exact ⟨ret_bool (by rw [F.out] <;> simp <;> omega), hb0⟩
  · have F := Lib.hid (show shortB u r = false by unfold shortB; simp [h1])
    go_enter Tryz.func40, Tryz.ntmps40
    go_wp2
    go_ret
    exact ⟨ret_bool (by rw [F.out] <;> simp <;> omega), hb0⟩
end Go.Proofs.YtodbbfgkclkpgaaGreatDoor

namespace Go.Proofs.YtodbbfgkclkpgaaGreatDoor
open Go.RowKit

set_option maxRecDepth 100000 in
theorem refPrint_calls (e : Int) (u r : ByteArray) (w : World) (hE : Env w) (h0 : -9223372036854775808 ≤ e) (h1 : e ≤ 9223372036854775807) (hu : u.size ≤ 1000000) (hr : r.size ≤ 1000000) :
    Calls Tryz.prog 52 #[.agg #[.int .i64 e, .string u, .string r]] w (PrintIs e u r w) := by
  have hb0 := below_alloc w (.cells #[.int .i64 e, .string u, .string r] 23)
  have hE1 := hE.below hb0
  clear hE
  have hr' : r.size = 0 ∨ 0 < r.size := by omega
  by_cases he : e = 0
  · subst he
    rcases hr' with hr' | hr'
    · have hz := isEmpty_true r hr'
      have er := eq_empty r hr'
      subst er
      clear hr' hr
      go_enter Tryz.func52, Tryz.ntmps52
      go_wp2
      go_ret
      exact ⟨_, rfl, by simp [VP.printP], hb0⟩
    · have hz := isEmpty_false r hr'
      have Hr := Lib.hid (printP_rev r hr')
      go_enter Tryz.func52, Tryz.ntmps52
      go_wp2
      go_ret
      exact ⟨_, rfl, by simp [VP.printP, Hr.out], hb0⟩
  · have hb : (e != 0) = true := by rw [bne_iff_ne]; exact he
    have HE := Lib.hid he
    clear he
    rcases hr' with hr' | hr'
    · have hz := isEmpty_true r hr'
      have er := eq_empty r hr'
      subst er
      clear hr' hr
      go_enter Tryz.func52, Tryz.ntmps52
      go_wp2_with fail
      refine (call_itoa _ _ hE1 h0 h1).mono ?_
      rintro E w1 ⟨t, rfl, ht, hts, hb1⟩
      have hB := step_below hb0 hb1
      obtain ⟨c0, c1, c2⟩ := box3 hb1
      clear hb1
      have Ht := Lib.hid ht
      clear ht
      go_wp2
      go_ret
      exact ⟨_, rfl, by simp [VP.printP, Ht.out, HE.out], hB⟩
    · have hz := isEmpty_false r hr'
      have Hr := Lib.hid (printP_rev r hr')
      go_enter Tryz.func52, Tryz.ntmps52
      go_wp2_with fail
      refine (call_itoa _ _ hE1 h0 h1).mono ?_
      rintro E w1 ⟨t, rfl, ht, hts, hb1⟩
      have hB := step_below hb0 hb1
      obtain ⟨c0, c1, c2⟩ := box3 hb1
      clear hb1
      have Ht := Lib.hid ht
      clear ht
      go_wp2
      go_ret
      exact ⟨_, rfl, by simp [VP.printP, Ht.out, HE.out, Hr.out], hB⟩
end Go.Proofs.YtodbbfgkclkpgaaGreatDoor
