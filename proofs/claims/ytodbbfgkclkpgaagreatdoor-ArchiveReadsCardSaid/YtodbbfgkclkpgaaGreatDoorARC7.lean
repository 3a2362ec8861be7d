/- The reference's Path: which paths may be. · What the laws share: short; and a call's contract as a word. · The reference's Print, Number: they are the program's. · The reference's Number: a text of digits, without a nought ahead, of at most so many. · The reference's Right says what the program's does: the plain part. · The reference's Right: the walk. -/
import Derived.Test.YtodbbfgkclkpgaaGreatDoorARC6
import Derived.Test.YtodbbfgkclkpgaaGreatDoorARC5
namespace Go.Proofs.YtodbbfgkclkpgaaGreatDoor
open Go.RowKit

/-! the reference's -/
theorem refOk_at (s : ByteArray) (k : Nat) (hlt : k < s.size) : VP.refOk s.data.toList k = (VP.okP s[k] && !(s[k] == 44) && !(s[k] == 47 && (match s.data.toList[k + 1]? with
    | none => true
    | some d => d == 47))) := by
  unfold VP.refOk
  rw [show s.data.toList[k]? = some s[k] from by rw [List.getElem?_eq_getElem (by rw [← size_eq_length]; exact hlt)]; rfl]
  all_goals rfl
theorem get_next (s : ByteArray) (k : Nat) (hlt : k + 1 < s.size) : s.data.toList[k + 1]? = some (s[k + 1]'hlt) := by
  rw [List.getElem?_eq_getElem (by rw [← size_eq_length]; exact hlt)]; rfl
theorem u8_beq (c : UInt8) (n : Nat) (h : n < 256) : (c == UInt8.ofNat n) = decide (c.toNat = n) := by
  rw [Bool.eq_iff_iff, beq_iff_eq, decide_eq_true_iff]
  constructor
  · rintro rfl; simp; omega
  · intro e; rw [← e]; simp

set_option maxHeartbeats 6000000 in
set_option maxRecDepth 100000 in
theorem refPath_calls (s : ByteArray) (w : World) (hs : s.size ≤ 1000000) : Calls Tryz.prog 19 #[.string s] w (BoolIs (VP.pathP s.data.toList) w) := by
  have hl := size_eq_length s
  have F := Lib.hid (VP.pathP_ref s.data.toList)
  rw [← hl] at F
  have HL := Lib.hid hl
  clear hl
  go_enter Tryz.func19, Tryz.ntmps19
  go_wp2_with fail
  go_loop [6] (fun i => ∃ k : Nat, k ≤ s.size ∧ i = .int .i64 k ∧ Hid (∀ j, j < k → VP.refOk s.data.toList j = true)) (fun i => s.size - (intOf i).toNat)
  case atStart => exact ⟨0, Nat.zero_le _, rfl, fun j h => absurd h (Nat.not_lt_zero _)⟩
  case round =>
    obtain ⟨k, hk, rfl, hall⟩ := hrel
    by_cases hlt : k < s.size
    · have hbt : s[k].toNat < 256 := s[k].toNat_lt
      have hr := Lib.hid (refOk_at s k hlt)
      have hstop := Lib.hid (fun (h : VP.refOk s.data.toList k = false) => VP.allAt_false hlt h)
      have hok := Lib.hid (fun (h : VP.refOk s.data.toList k = true) => (show ∀ j, j < k + 1 → VP.refOk s.data.toList j = true from fun j hj => by
        rcases Nat.lt_or_ge j k with h' | h'
        · exact hall.out j h'
        · obtain rfl : j = k := by omega
          exact h))
      have ho := Lib.hid (show VP.okP s[k] = inB (s[k].toNat : Int) 33 126 by unfold VP.okP inB; rw [Bool.eq_iff_iff]; simp; omega)
      have e44 := Lib.hid (u8_beq s[k] 44 (by omega))
      have e47 := Lib.hid (u8_beq s[k] 47 (by omega))
      obtain ⟨bi, hbi⟩ : ∃ b, inB (s[k].toNat : Int) 33 126 = b := ⟨_, rfl⟩
      have HI := Lib.hid hbi
      have CI := Lib.hid (fun (W : World) => in_calls (s[k].toNat : Int) 33 126 W)
      rw [hbi] at CI
      clear hbi
      cases bi with
      | false =>
        have HF := Lib.hid (show VP.pathP s.data.toList = false by rw [F.out, hstop.out (by rw [hr.out, ho.out, HI.out]; rfl)]; rfl)
        clear hr hstop hok ho e44 e47 HI F HL hall
        go_wp2_with (go_at_call 75; refine (CI.out _).mono ?_; rintro e w' ⟨rfl, rfl⟩)
        go_ret
        exact ⟨ret_bool HF.out.symm, Below.refl _ _⟩
      | true =>
      have hc : s[k].toNat = 44 ∨ (s[k].toNat = 47 ∧ (k + 1 = s.size ∨ ∃ h : k + 1 < s.size, (s[k + 1]'h).toNat = 47)) ∨ (s[k].toNat ≠ 44 ∧ (s[k].toNat ≠ 47 ∨ ∃ h : k + 1 < s.size, (s[k + 1]'h).toNat ≠ 47)) := by
        by_cases h44 : s[k].toNat = 44
        · exact .inl h44
        by_cases h47 : s[k].toNat = 47
        · by_cases hd : k + 1 = s.size
          · exact .inr (.inl ⟨h47, .inl hd⟩)
          · have hlt2 : k + 1 < s.size := by omega
            by_cases h48 : (s[k + 1]'hlt2).toNat = 47
            · exact .inr (.inl ⟨h47, .inr ⟨hlt2, h48⟩⟩)
            · exact .inr (.inr ⟨h44, .inr ⟨hlt2, h48⟩⟩)
        · exact .inr (.inr ⟨h44, .inl h47⟩)
      have b44 : s[k].toNat ≠ 44 → (s[k] == 44) = false := fun h => (u8_beq s[k] 44 (by omega)).trans (decide_eq_false h)
      have c44 : s[k].toNat = 44 → (s[k] == 44) = true := fun h => (u8_beq s[k] 44 (by omega)).trans (decide_eq_true h)
      have c47 : s[k].toNat = 47 → (s[k] == 47) = true := fun h => (u8_beq s[k] 47 (by omega)).trans (decide_eq_true h)
      have b47 : s[k].toNat ≠ 47 → (s[k] == 47) = false := fun h => (u8_beq s[k] 47 (by omega)).trans (decide_eq_false h)
      rcases hc with h44 | ⟨h47, hd | ⟨hlt2, h48⟩⟩ | ⟨h44, h47 | ⟨hlt2, h48⟩⟩
      · have HF := Lib.hid (show VP.pathP s.data.toList = false by rw [F.out, hstop.out (by rw [hr.out, c44 h44]; simp)]; rfl)
        have Ea44 : ((s[k].toNat : Int) == 44) = true := by rw [beq_iff_eq]; omega
        clear hr hstop hok ho e44 e47 HI F HL hall b44 c44 c47 b47 h44
        go_wp2_with (go_at_call 75; refine (CI.out _).mono ?_; rintro e w' ⟨rfl, rfl⟩)
        go_ret
        exact ⟨ret_bool HF.out.symm, Below.refl _ _⟩
      · have hn : s.data.toList[k + 1]? = none := List.getElem?_eq_none (by rw [← HL.out]; omega)
        have HF := Lib.hid (show VP.pathP s.data.toList = false by rw [F.out, hstop.out (by rw [hr.out, hn, c47 h47]; simp)]; rfl)
        have Ea44 : ((s[k].toNat : Int) == 44) = false := by rw [beq_eq_false_iff_ne]; omega
        have Ea47 : ((s[k].toNat : Int) == 47) = true := by rw [beq_iff_eq]; omega
        clear hr hstop hok ho e44 e47 HI F HL hall b44 c44 c47 b47 hn h47
        go_wp2_with (go_at_call 75; refine (CI.out _).mono ?_; rintro e w' ⟨rfl, rfl⟩)
        go_ret
        exact ⟨ret_bool HF.out.symm, Below.refl _ _⟩
      · have hn := get_next s k hlt2
        have hnb : (s[k + 1]'hlt2).toNat < 256 := (s[k + 1]'hlt2).toNat_lt
        have h2 : ((s[k + 1]'hlt2) == 47) = true := (u8_beq (s[k + 1]'hlt2) 47 (by omega)).trans (decide_eq_true h48)
        have HF := Lib.hid (show VP.pathP s.data.toList = false by rw [F.out, hstop.out (by rw [hr.out, hn, c47 h47]; simp [h2])]; rfl)
        have Ea44 : ((s[k].toNat : Int) == 44) = false := by rw [beq_eq_false_iff_ne]; omega
        have Ea47 : ((s[k].toNat : Int) == 47) = true := by rw [beq_iff_eq]; omega
        have Eb47 : (((s[k + 1]'hlt2).toNat : Int) == 47) = true := by rw [beq_iff_eq]; omega
        have hkl : ((k : Int) == (s.size : Int) - 1) = false := by rw [beq_eq_false_iff_ne]; omega
        clear hr hstop hok ho e44 e47 HI F HL hall b44 c44 c47 b47 hn h2 h47 h48
        go_wp2_with (go_at_call 75; refine (CI.out _).mono ?_; rintro e w' ⟨rfl, rfl⟩)
        go_ret
        exact ⟨ret_bool HF.out.symm, Below.refl _ _⟩
      · have HK := Lib.hid (hok.out (by rw [hr.out, ho.out, HI.out, b44 h44, b47 h47]; rfl))
        have Ea44 : ((s[k].toNat : Int) == 44) = false := by rw [beq_eq_false_iff_ne]; omega
        have Ea47 : ((s[k].toNat : Int) == 47) = false := by rw [beq_eq_false_iff_ne]; omega
        clear hr hstop hok ho e44 e47 HI hall b44 c44 c47 b47 h44 h47
        go_wp2_with (go_at_call 75; refine (CI.out _).mono ?_; rintro e w' ⟨rfl, rfl⟩)
        go_round
        case rel => exact ⟨k + 1, by omega, by go_num, HK⟩
        case measure => simp [intOf]; omega
      · have hn := get_next s k hlt2
        have hnb : (s[k + 1]'hlt2).toNat < 256 := (s[k + 1]'hlt2).toNat_lt
        have h2 : ((s[k + 1]'hlt2) == 47) = false := (u8_beq (s[k + 1]'hlt2) 47 (by omega)).trans (decide_eq_false h48)
        have HK := Lib.hid (hok.out (by rw [hr.out, ho.out, HI.out, b44 h44, hn]; simp [h2]))
        have Ea44 : ((s[k].toNat : Int) == 44) = false := by rw [beq_eq_false_iff_ne]; omega
        have Eb47 : (((s[k + 1]'hlt2).toNat : Int) == 47) = false := by rw [beq_eq_false_iff_ne]; omega
        have hkl : ((k : Int) == (s.size : Int) - 1) = false := by rw [beq_eq_false_iff_ne]; omega
        clear hr hstop hok ho e44 e47 HI hall b44 c44 c47 b47 hn h2 h44 h48
        by_cases h47 : s[k].toNat = 47
        · have Ea47 : ((s[k].toNat : Int) == 47) = true := by rw [beq_iff_eq]; omega
          clear h47
          go_wp2_with (go_at_call 75; refine (CI.out _).mono ?_; rintro e w' ⟨rfl, rfl⟩)
          go_round
          case rel => exact ⟨k + 1, by omega, by go_num, HK⟩
          case measure => simp [intOf]; omega
        · have Ea47 : ((s[k].toNat : Int) == 47) = false := by rw [beq_eq_false_iff_ne]; omega
          clear h47
          go_wp2_with (go_at_call 75; refine (CI.out _).mono ?_; rintro e w' ⟨rfl, rfl⟩)
          go_round
          case rel => exact ⟨k + 1, by omega, by go_num, HK⟩
          case measure => simp [intOf]; omega
    · have ha := Lib.hid (show VP.allAt s.size (VP.refOk s.data.toList) = true from VP.allAt_true (fun j hj => hall.out j (by omega)))
      rw [ha.out] at F
      clear hall
      by_cases h0 : s.size = 0
      · have HF := Lib.hid (show VP.pathP s.data.toList = false by rw [F.out, decide_eq_false (by omega : ¬ 1 ≤ s.size)]; rfl)
        have hin := Lib.hid (fun (W : World) => in_calls (s.size : Int) 1 60 W)
        have hf : inB (s.size : Int) 1 60 = false := by unfold inB; rw [decide_eq_false (by omega)]; rfl
        rw [hf] at hin
        clear hf h0 F
        go_wp2_with (go_at_call 75; refine (hin.out _).mono ?_; rintro e w' ⟨rfl, rfl⟩)
        go_ret
        exact ⟨ret_bool HF.out.symm, Below.refl _ _⟩
      have hin := Lib.hid (fun (W : World) => in_calls (s.size : Int) 1 60 W)
      by_cases h60 : s.size ≤ 60
      case neg =>
        have hf : inB (s.size : Int) 1 60 = false := by unfold inB; rw [decide_eq_false (by omega : ¬ (s.size : Int) ≤ 60), Bool.and_false]
        rw [hf] at hin
        clear hf
        go_wp2_with (go_at_call 75; refine (hin.out _).mono ?_; rintro e w' ⟨rfl, rfl⟩)
        go_ret
        exact ⟨ret_bool (by rw [F.out, decide_eq_false h60]; simp), Below.refl _ _⟩
      have hf : inB (s.size : Int) 1 60 = true := by unfold inB; rw [decide_eq_true (by omega), decide_eq_true (by omega)]; rfl
      rw [hf] at hin
      clear hf
      have hst := Lib.hid (startsP_eq s (by omega))
      have G := Lib.hid (show VP.pathP s.data.toList = (VP.lett s[0] || VP.dig s[0]) by rw [F.out, hst.out, decide_eq_true (by omega : 1 ≤ s.size), decide_eq_true h60]; simp)
      clear F hst
      obtain ⟨bd, hbd⟩ : ∃ b, VP.dig s[0] = b := ⟨_, rfl⟩
      obtain ⟨bt, hbt⟩ : ∃ b, VP.lett s[0] = b := ⟨_, rfl⟩
      have CD := Lib.hid (fun (W : World) => digit_calls s[0] W)
      have CL := Lib.hid (fun (W : World) => letter_calls s[0] W)
      rw [hbd] at CD G
      rw [hbt] at CL G
      clear hbd hbt
      cases bd with
      | true =>
        go_wp2_with (first | (go_at_call 75; refine (hin.out _).mono ?_; rintro e w' ⟨rfl, rfl⟩) | (go_at_call 76; refine (CD.out _).mono ?_; rintro e w' ⟨rfl, rfl⟩))
        go_ret
        exact ⟨ret_bool (by rw [G.out]; simp), Below.refl _ _⟩
      | false =>
        go_wp2_with (first | (go_at_call 75; refine (hin.out _).mono ?_; rintro e w' ⟨rfl, rfl⟩) | (go_at_call 76; refine (CD.out _).mono ?_; rintro e w' ⟨rfl, rfl⟩) | (go_at_call 77; refine (CL.out _).mono ?_; rintro e w' ⟨rfl, rfl⟩))
        go_ret
        exact ⟨ret_bool (by rw [G.out]; simp), Below.refl _ _⟩
end Go.Proofs.YtodbbfgkclkpgaaGreatDoor

namespace Go.Proofs.YtodbbfgkclkpgaaGreatDoor
open Go.RowKit

/-- from any world that has grown out of w, this call returns v, and the world grows -/
def Gives (w : World) (f : Nat) (args : Array Value) (v : Value) : Prop :=
  ∀ W, Below w.heap.size w W → Calls Tryz.prog f args W fun E W' => E = .returned v ∧ Below W.heap.size W W'
theorem Gives.at {w : World} {f : Nat} {args : Array Value} {v : Value} (h : Gives w f args v) (W : World) (hb : Below w.heap.size w W) : Calls Tryz.prog f args W fun E W' => E = .returned v ∧ Below W.heap.size W W' := h W hb

end Go.Proofs.YtodbbfgkclkpgaaGreatDoor

namespace Go.Proofs.YtodbbfgkclkpgaaGreatDoor
open Go.RowKit

set_option maxRecDepth 100000 in
theorem refPrint_calls (e : Int) (u r : ByteArray) (w : World) (hE : Env w) (h0 : -9223372036854775808 ≤ e) (h1 : e ≤ 9223372036854775807) (hu : u.size ≤ 1000000) (hr : r.size ≤ 1000000) :
    Calls Tryz.prog 52 #[.agg #[.int .i64 e, .string u, .string r]] w (PrintIs e u r w) := by
  have hb0 := below_alloc w (.cells #[.int .i64 e, .string u, .string r] 23)
  have hE1 := hE.below hb0
  clear hE
  have hr' : r.size = 0 ∨ 0 < r.size := by omega
  by_cases he : e = 0
  · subst he
    rcases hr' with hr' | hr'
    · have hz := isEmpty_true r hr'
      have er := eq_empty r hr'
      subst er
      clear hr' hr
      go_enter Tryz.func52, Tryz.ntmps52
      go_wp2
      go_ret
      exact ⟨_, rfl, by simp [VP.printP], hb0⟩
    · have hz := isEmpty_false r hr'
      have Hr := Lib.hid (printP_rev r hr')
      go_enter Tryz.func52, Tryz.ntmps52
      go_wp2
      go_ret
      exact ⟨_, rfl, by simp [VP.printP, Hr.out], hb0⟩
  · have hb : (e != 0) = true := by rw [bne_iff_ne]; exact he
    have HE := Lib.hid he
    clear he
    rcases hr' with hr' | hr'
    · have hz := isEmpty_true r hr'
      have er := eq_empty r hr'
      subst er
      clear hr' hr
      go_enter Tryz.func52, Tryz.ntmps52
      go_wp2_with fail
      refine (call_itoa _ _ hE1 h0 h1).mono ?_
      rintro E w1 ⟨t, rfl, ht, hts, hb1⟩
      have hB := step_below hb0 hb1
      obtain ⟨c0, c1, c2⟩ := box3 hb1
      clear hb1
      have Ht := Lib.hid ht
      clear ht
      go_wp2
      go_ret
      exact ⟨_, rfl, by simp [VP.printP, Ht.out, HE.out], hB⟩
    · have hz := isEmpty_false r hr'
      have Hr := Lib.hid (printP_rev r hr')
      go_enter Tryz.func52, Tryz.ntmps52
      go_wp2_with fail
      refine (call_itoa _ _ hE1 h0 h1).mono ?_
      rintro E w1 ⟨t, rfl, ht, hts, hb1⟩
      have hB := step_below hb0 hb1
      obtain ⟨c0, c1, c2⟩ := box3 hb1
      clear hb1
      have Ht := Lib.hid ht
      clear ht
      go_wp2
      go_ret
      exact ⟨_, rfl, by simp [VP.printP, Ht.out, HE.out, Hr.out], hB⟩
end Go.Proofs.YtodbbfgkclkpgaaGreatDoor

namespace Go.Proofs.YtodbbfgkclkpgaaGreatDoor
open Go.RowKit

def NumberIs (most : Nat) (s : ByteArray) (w : World) (e : Ending) (w' : World) : Prop :=
  e = .returned (.tuple #[.int .i64 (((VP.number most s.data.toList).getD 0 : Nat) : Int), .bool (VP.number most s.data.toList).isSome]) ∧ w = w'

theorem refNumber_none (most : Nat) (s : ByteArray) (w : World) (h : VP.number most s.data.toList = none) : NumberIs most s w (.returned (.tuple #[.int .i64 0, .bool false])) w := by
  refine ⟨?_, rfl⟩
  rw [h]; rfl

set_option maxRecDepth 100000 in
theorem refNumber_loop (most : Nat) (hm : most ≤ 9) (s : ByteArray) (w : World) (h0 : 0 < s.size) (h9 : s.size ≤ most) (hz : ¬ (1 < s.size ∧ s[0] = 48)) :
    Calls Tryz.prog 118 #[.string s, .int .i64 (most : Int)] w (NumberIs most s w) := by
  have hl := size_eq_length s
  have hnn : ¬ (s.data.toList = [] ∨ most < s.data.toList.length ∨ (1 < s.data.toList.length ∧ s.data.toList.head? = some 48)) := by
    rintro (e | e | ⟨e1, e2⟩)
    · rw [e, List.length_nil] at hl; omega
    · omega
    · refine hz ⟨by omega, ?_⟩
      rw [list_cons s h0] at e2
      simpa using e2
  have hn : VP.number most s.data.toList = if s.data.toList.all VP.dig then some (VP.val s.data.toList) else none := by
    unfold VP.number; rw [if_neg hnn]
  have HN := Lib.hid hn
  have HL := Lib.hid hl
  have he0 : ((s.size : Int) == 0) = false := by rw [beq_eq_false_iff_ne]; omega
  clear hn hnn hl
  have hb : 1 < s.size → (((s[0].toNat : Nat) : Int) == 48) = false := fun h => by
    rw [beq_eq_false_iff_ne]
    intro e
    refine hz ⟨h, ?_⟩
    exact UInt8.toNat_inj.1 (by have e48 : (48 : UInt8).toNat = 48 := rfl; omega)
  clear hz
  have hq : (1 < s.size ∧ (((s[0].toNat : Nat) : Int) == 48) = false) ∨ s.size ≤ 1 := by
    rcases Nat.lt_or_ge 1 s.size with h | h
    · exact .inl ⟨h, hb h⟩
    · exact .inr h
  clear hb
  have hgt : decide (most < s.size) = false := decide_eq_false (by omega)
  have hgt' : decide ((most : Int) < (s.size : Int)) = false := decide_eq_false (by omega)
  rcases hq with ⟨h1, hb'⟩ | h1
  all_goals
    go_enter Tryz.func118, Tryz.ntmps118
    go_wp2
    go_loop [6, 29] (fun n i => ∃ k : Nat, k ≤ s.size ∧ i = .int .i64 k ∧ n = .int .i64 (VP.val (s.data.toList.take k) : Nat) ∧ Hid ((s.data.toList.take k).all VP.dig = true)) (fun _ i => s.size - (intOf i).toNat)
    case atStart => exact ⟨0, Nat.zero_le _, rfl, rfl, rfl⟩
    case round =>
      obtain ⟨k, hk, rfl, rfl, hall⟩ := hrel
      have hv := VP.val_lt _ hall.out
      have hlen : (s.data.toList.take k).length ≤ 9 := Nat.le_trans (List.length_take_le _ _) (by omega)
      have hpow : 10 ^ (s.data.toList.take k).length ≤ 10 ^ 9 := Nat.pow_le_pow_right (by omega) hlen
      have hv9 : VP.val (s.data.toList.take k) < 1000000000 := Nat.lt_of_lt_of_le hv hpow
      clear hv hlen hpow
      by_cases hlt : k < s.size
      · have hts := Lib.hid (take_snoc s k hlt)
        have hbt : s[k].toNat < 256 := s[k].toNat_lt
        have hdg : VP.dig s[k] = true ∨ VP.dig s[k] = false := by cases VP.dig s[k] <;> simp
        rcases hdg with hdg | hdg
        · have hdd : 48 ≤ s[k].toNat ∧ s[k].toNat ≤ 57 := by unfold VP.dig at hdg; simpa using hdg
          obtain ⟨hd1, hd2⟩ := hdd
          have hdg' := Lib.hid hdg
          go_wp2_with (go_at_call 76; refine (digit_calls _ _).mono ?_; rintro e w' ⟨rfl, rfl⟩)
          go_round
          case rel =>
            have r3 : Value.int .i64 ((VP.val (s.data.toList.take k) : Nat) * 10 + ((s[k].toNat : Int) - 48)) = .int .i64 (VP.val (s.data.toList.take (k + 1)) : Nat) := by rw [hts.out, VP.val_snoc]; go_num
            have r4 : Hid ((s.data.toList.take (k + 1)).all VP.dig = true) := Lib.hid (by rw [hts.out, List.all_append, hall.out]; simp [hdg'.out])
            first
              | exact ⟨k + 1, by omega, by go_num, r3, r4⟩
              | (refine ⟨trivial, ?_⟩; (repeat apply Exists.intro); exact ⟨⟨k + 1, by omega, by go_num, r3, r4⟩, rfl⟩)
              | ((repeat apply Exists.intro); exact ⟨⟨k + 1, by omega, by go_num, r3, r4⟩, rfl⟩)
          case measure => simp [intOf]; omega
        · have hdg' := Lib.hid hdg
          have hdr := Lib.hid (drop_cons s k hlt)
          go_wp2_with (go_at_call 76; refine (digit_calls _ _).mono ?_; rintro e w' ⟨rfl, rfl⟩)
          go_ret2
          refine refNumber_none _ _ _ ?_
          rw [HN.out, if_neg]
          intro ha
          rw [← List.take_append_drop k s.data.toList, hdr.out] at ha
          rw [List.all_append, List.all_cons, hdg'.out] at ha
          simp at ha
      · go_wp2
        go_ret2
        have hl := HL.out
        have ht : s.data.toList.take k = s.data.toList := List.take_of_length_le (by omega)
        have ha := hall.out
        rw [ht] at ha
        refine ⟨?_, rfl⟩
        rw [HN.out, ht, if_pos ha]
        rfl

set_option maxRecDepth 100000 in
theorem refNumber_calls (most : Nat) (hm : most ≤ 9) (s : ByteArray) (w : World) (hs : s.size ≤ 1000000) : Calls Tryz.prog 118 #[.string s, .int .i64 (most : Int)] w (NumberIs most s w) := by
  have hl := size_eq_length s
  by_cases h0 : s.size = 0
  · have hn : VP.number most s.data.toList = none := by
      unfold VP.number; rw [if_pos]; left
      exact List.eq_nil_of_length_eq_zero (by omega)
    have HN := Lib.hid hn
    have he0 : ((s.size : Int) == 0) = true := by rw [beq_iff_eq]; omega
    clear hl hn h0
    go_enter Tryz.func118, Tryz.ntmps118
    go_wp2
    go_ret2
    exact refNumber_none _ _ _ HN.out
  · have h0' : 0 < s.size := by omega
    have he0 : ((s.size : Int) == 0) = false := by rw [beq_eq_false_iff_ne]; omega
    by_cases h9 : most < s.size
    · have hn : VP.number most s.data.toList = none := by unfold VP.number; rw [if_pos]; right; left; omega
      have HN := Lib.hid hn
      clear hl hn h0
      go_enter Tryz.func118, Tryz.ntmps118
      go_wp2
      go_ret2
      exact refNumber_none _ _ _ HN.out
    · have h9' : s.size ≤ most := by omega
      by_cases hz : 1 < s.size ∧ s[0] = 48
      · obtain ⟨h1, hz⟩ := hz
        have hn : VP.number most s.data.toList = none := by
          unfold VP.number; rw [if_pos]; right; right
          refine ⟨by omega, ?_⟩
          rw [list_cons s h0', hz]; rfl
        have hb : (((s[0].toNat : Nat) : Int) == 48) = true := by rw [hz]; rfl
        have HN := Lib.hid hn
        clear hl hn hz h0 h9
        go_enter Tryz.func118, Tryz.ntmps118
        go_wp2
        go_ret2
        exact refNumber_none _ _ _ HN.out
      · exact refNumber_loop most hm s w h0' h9' hz
end Go.Proofs.YtodbbfgkclkpgaaGreatDoor

namespace Go.Proofs.YtodbbfgkclkpgaaGreatDoor
open Go.RowKit

/-- which letters besides the reference lets by -/
def moreP (e : Int) (r : List UInt8) : List UInt8 := ([46, 43, 126] ++ (if 0 < e then [58] else [])) ++ (if r = [] then [] else [45])

theorem fin_all {p q : UInt8 → Bool} (h : ∀ i : Fin 256, p (UInt8.ofNat i.val) = q (UInt8.ofNat i.val)) : p = q := by
  funext c
  have := h ⟨c.toNat, c.toNat_lt⟩
  simpa using this
theorem allP_base : allP [46, 43, 126] = VP.ok0 := fin_all (by decide +kernel)
theorem allP_11 : allP (([46, 43, 126] ++ [58]) ++ [45]) = fun c => VP.ok0 c || c == 45 || (true && c == 58) := fin_all (by decide +kernel)
theorem allP_01 : allP (([46, 43, 126] ++ []) ++ [45]) = fun c => VP.ok0 c || c == 45 || (false && c == 58) := fin_all (by decide +kernel)
theorem allP_10 : allP (([46, 43, 126] ++ [58]) ++ []) = fun c => (VP.ok0 c || c == 45 || (true && c == 58)) && !(c == 45) := fin_all (by decide +kernel)
theorem allP_00 : allP (([46, 43, 126] ++ []) ++ []) = fun c => (VP.ok0 c || c == 45 || (false && c == 58)) && !(c == 45) := fin_all (by decide +kernel)

theorem all_and_not (p : UInt8 → Bool) (l : List UInt8) : (l.all fun c => p c && !(c == 45)) = (l.all p && !l.contains 45) := by
  induction l with
  | nil => rfl
  | cons c l ih =>
    rw [List.all_cons, List.all_cons, List.contains_cons, ih]
    have : ((45 : UInt8) == c) = (c == 45) := by rw [Bool.eq_iff_iff, beq_iff_eq, beq_iff_eq]; exact eq_comm
    rw [this]
    cases p c <;> cases (c == 45) <;> cases l.all p <;> cases l.contains 45 <;> rfl

theorem moreP_all (e : Int) (u r : List UInt8) : u.all (allP (moreP e r)) = (u.all (VP.ok1 e) && (r != [] || !u.contains 45)) := by
  unfold moreP
  by_cases he : 0 < e
  · have h1 : VP.ok1 e = fun c => VP.ok0 c || c == 45 || (true && c == 58) := by funext c; unfold VP.ok1; rw [decide_eq_true he]
    rw [if_pos he, h1]
    by_cases hr : r = []
    · rw [if_pos hr, allP_10, all_and_not, hr]; rfl
    · rw [if_neg hr, allP_11]
      have : (r != []) = true := by simpa using hr
      rw [this, Bool.true_or, Bool.and_true]
  · have h1 : VP.ok1 e = fun c => VP.ok0 c || c == 45 || (false && c == 58) := by funext c; unfold VP.ok1; rw [decide_eq_false he]
    rw [if_neg he, h1]
    by_cases hr : r = []
    · rw [if_pos hr, allP_00, all_and_not, hr]; rfl
    · rw [if_neg hr, allP_01]
      have : (r != []) = true := by simpa using hr
      rw [this, Bool.true_or, Bool.and_true]

/-- THE REFERENCE's RIGHT, test by test. -/
theorem right_ref (e : Int) (u r : List UInt8) : VP.rightP e u r = (inB e 0 999999999 && VP.startsDig u && u.all (allP (moreP e r)) && r.all (allP [46, 43, 126]) && decide ((VP.printP e u r).length ≤ 40)) := by
  rw [moreP_all, allP_base]
  unfold VP.rightP inB
  have : decide (e < 1000000000) = decide (e ≤ 999999999) := decide_eq_decide.2 (by omega)
  rw [this]
  cases decide (0 ≤ e) <;> cases decide (e ≤ 999999999) <;> cases VP.startsDig u <;> cases u.all (VP.ok1 e) <;> cases r.all VP.ok0 <;> cases (r != [] || !u.contains 45) <;> cases decide ((VP.printP e u r).length ≤ 40) <;> rfl
end Go.Proofs.YtodbbfgkclkpgaaGreatDoor

namespace Go.Proofs.YtodbbfgkclkpgaaGreatDoor
open Go.RowKit

def allB (s : ByteArray) (more : List UInt8) : Bool := s.data.toList.all (allP more)
theorem all_calls' (s m : ByteArray) (more : List UInt8) (h : m.data.toList = more) (w : World) (hs : s.size ≤ 1000000) : Calls Tryz.prog 143 #[.string s, .string m] w fun E w' => E = .returned (.bool (allB s more)) ∧ w = w' := by
  subst h
  exact all_calls s m w hs

set_option maxHeartbeats 1000000 in
set_option maxRecDepth 100000 in
theorem refRight_calls (e : Int) (u r : ByteArray) (w : World) (hE : Env w) (h0 : -9223372036854775808 ≤ e) (h1 : e ≤ 9223372036854775807) (hu : u.size ≤ 1000000) (hr : r.size ≤ 1000000) :
    Calls Tryz.prog 71 #[.agg #[.int .i64 e, .string u, .string r]] w (RightIs e u r w) := by
  have hb0 := below_alloc w (.cells #[.int .i64 e, .string u, .string r] 23)
  have hE1 := hE.below hb0
  clear hE
  have hR := Lib.hid (right_ref e u.data.toList r.data.toList)
  have A1 := Lib.hid (fun (m : ByteArray) (h : m.data.toList = moreP e r.data.toList) (w : World) => all_calls' u m _ h w hu)
  have A2 := Lib.hid (fun (m : ByteArray) (h : m.data.toList = [46, 43, 126]) (w : World) => all_calls' r m _ h w hr)
  have P := Lib.hid (fun (w : World) (h : Env w) => refPrint_calls e u r w h h0 h1 hu hr)
  have D1 : 0 < e ∨ e ≤ 0 := by omega
  have D2 : 0 < r.size ∨ r.size = 0 := by omega
  have D3 : inB e 0 999999999 = true ∨ inB e 0 999999999 = false := by cases inB e 0 999999999 <;> simp
  have hm : (0 < e ∧ r.toList.isEmpty = false ∧ Hid (moreP e r.data.toList = ([46, 43, 126] ++ [58]) ++ [45])) ∨ (0 < e ∧ r.toList.isEmpty = true ∧ Hid (moreP e r.data.toList = ([46, 43, 126] ++ [58]) ++ [])) ∨
      (e ≤ 0 ∧ r.toList.isEmpty = false ∧ Hid (moreP e r.data.toList = ([46, 43, 126] ++ []) ++ [45])) ∨ (e ≤ 0 ∧ r.toList.isEmpty = true ∧ Hid (moreP e r.data.toList = ([46, 43, 126] ++ []) ++ [])) := by
    rcases D1 with hp | hp <;> rcases D2 with hz | hz
    · exact .inl ⟨hp, isEmpty_false r hz, Lib.hid (by unfold moreP; rw [if_pos hp, if_neg (printP_rev r hz)])⟩
    · exact .inr (.inl ⟨hp, isEmpty_true r hz, Lib.hid (by unfold moreP; rw [if_pos hp, if_pos (by rw [eq_empty r hz])])⟩)
    · exact .inr (.inr (.inl ⟨hp, isEmpty_false r hz, Lib.hid (by unfold moreP; rw [if_neg (by omega), if_neg (printP_rev r hz)])⟩))
    · exact .inr (.inr (.inr ⟨hp, isEmpty_true r hz, Lib.hid (by unfold moreP; rw [if_neg (by omega), if_pos (by rw [eq_empty r hz])])⟩))
  clear D1 D2
  have D4 : u.size = 0 ∨ 0 < u.size := by omega
  rcases hm with ⟨hp, hzr, hm⟩ | ⟨hp, hzr, hm⟩ | ⟨hp, hzr, hm⟩ | ⟨hp, hzr, hm⟩
  all_goals
    rcases D3 with d3 | d3
    · rcases D4 with hu0 | hu1
      · have hue := isEmpty_true u hu0
        have hst : Hid (VP.startsDig u.data.toList = false) := by rw [eq_empty u hu0]; exact rfl
        go_enter Tryz.func71, Tryz.ntmps71
        go_wp2_with (go_at_call 75; refine (in_calls _ _ _ _).mono ?_; rintro E w' ⟨rfl, rfl⟩)
        go_ret
        refine ⟨ret_bool ?_, hb0⟩
        rw [hR.out, d3, hst.out]
        rfl
      · have hue := isEmpty_false u hu1
        have hst := Lib.hid (startsDig_eq u hu1)
        have d4 : VP.dig u[0] = true ∨ VP.dig u[0] = false := by cases VP.dig u[0] <;> simp
        rcases d4 with d4 | d4
        · have d5 : allB u (moreP e r.data.toList) = true ∨ allB u (moreP e r.data.toList) = false := by cases allB u (moreP e r.data.toList) <;> simp
          have d6 : allB r [46, 43, 126] = true ∨ allB r [46, 43, 126] = false := by cases allB r [46, 43, 126] <;> simp
          go_enter Tryz.func71, Tryz.ntmps71
          go_wp2_with (first | (go_at_call 75; refine (in_calls _ _ _ _).mono ?_; rintro E w' ⟨rfl, rfl⟩) | (go_at_call 76; refine (digit_calls _ _).mono ?_; rintro E w' ⟨rfl, rfl⟩))
          refine (A1.out _ (by rw [hm.out]; first | (rw [append_data, append_data]; rfl) | (rw [append_data]; rfl) | rfl) _).mono ?_
          rintro E w1 ⟨rfl, rfl⟩
          rcases d5 with d5 | d5
          · go_wp2_with fail
            refine (A2.out _ rfl _).mono ?_
            rintro E w1 ⟨rfl, rfl⟩
            rcases d6 with d6 | d6
            · go_wp2_with fail
              refine (P.out _ hE1).mono ?_
              rintro E w1 ⟨t, rfl, ht, hb⟩
              have hB := step_below hb0 hb
              have HT := Lib.hid ht
              clear hb ht
              go_wp2_with fail
              go_ret
              refine ⟨ret_bool ?_, hB⟩
              have e5 : u.data.toList.all (allP (moreP e r.data.toList)) = true := d5
              have e6 : r.data.toList.all (allP [46, 43, 126]) = true := d6
              rw [hR.out, d3, hst.out, d4, e5, e6, ← HT.out, ← size_eq_length]
              simp
              omega
            · go_wp2_with fail
              go_ret
              refine ⟨ret_bool ?_, hb0⟩
              have e5 : u.data.toList.all (allP (moreP e r.data.toList)) = true := d5
              have e6 : r.data.toList.all (allP [46, 43, 126]) = false := d6
              rw [hR.out, d3, hst.out, d4, e5, e6]
              rfl
          · go_wp2_with fail
            go_ret
            refine ⟨ret_bool ?_, hb0⟩
            have e5 : u.data.toList.all (allP (moreP e r.data.toList)) = false := d5
            rw [hR.out, d3, hst.out, d4, e5]
            rfl
        · go_enter Tryz.func71, Tryz.ntmps71
          go_wp2_with (first | (go_at_call 75; refine (in_calls _ _ _ _).mono ?_; rintro E w' ⟨rfl, rfl⟩) | (go_at_call 76; refine (digit_calls _ _).mono ?_; rintro E w' ⟨rfl, rfl⟩))
          go_ret
          refine ⟨ret_bool ?_, hb0⟩
          rw [hR.out, d3, hst.out, d4]
          rfl
    · go_enter Tryz.func71, Tryz.ntmps71
      go_wp2_with (go_at_call 75; refine (in_calls _ _ _ _).mono ?_; rintro E w' ⟨rfl, rfl⟩)
      go_ret
      refine ⟨ret_bool ?_, hb0⟩
      rw [hR.out, d3]
      rfl
end Go.Proofs.YtodbbfgkclkpgaaGreatDoor
