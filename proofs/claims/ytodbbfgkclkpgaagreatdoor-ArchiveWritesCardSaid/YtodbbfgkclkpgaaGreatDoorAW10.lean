/- record.path, record.Path; the reference's Path: which paths may be. -/
import Derived.Test.YtodbbfgkclkpgaaGreatDoorAW7
import Derived.Test.YtodbbfgkclkpgaaGreatDoorAW9
import Derived.Deep.Cut
namespace Go.Proofs.YtodbbfgkclkpgaaGreatDoor
open Go.RowKit

theorem last_get (s : ByteArray) (n : Nat) (h : s.size = n + 1) : s.data.toList.getLast? = some (s[n]'(by omega)) := by
  have hl := size_eq_length s
  have e : s.data.toList.length - 1 = n := by omega
  rw [List.getLast?_eq_getElem?, e, List.getElem?_eq_getElem (by omega)]
  rfl
theorem okP_at {s : ByteArray} {k : Nat} (hlt : k < s.size) (h : VP.okP s[k] = false) : s.data.toList.all VP.okP = false := by
  rw [← List.take_append_drop k s.data.toList, drop_cons s k hlt, List.all_append, List.all_cons, h]
  simp
theorem startsP_eq (s : ByteArray) (h : 0 < s.size) : VP.startsP s.data.toList = (VP.lett s[0] || VP.dig s[0]) := by
  rw [list_cons s h]; rfl

def PathC (s : ByteArray) (sub : ByteArray) (b : Bool) : Prop := ∀ W : World, (∃ m, W.cell? ⟨4, 0, none⟩ = some (.int .i64 m)) → Calls Tryz.prog 138 #[.string s, .string sub] W fun e w' => e = .returned (.bool b) ∧ W = w'

set_option maxHeartbeats 6000000 in
set_option maxRecDepth 100000 in
theorem path_calls (s : ByteArray) (w : World) (hE : Env w) (hs : s.size ≤ 1000000) : Calls Tryz.prog 74 #[.string s] w (BoolIs (VP.pathP s.data.toList) w) := by
  obtain ⟨bS, hbS⟩ : ∃ b, Lib.contains s.data.toList [47, 47] = b := ⟨_, rfl⟩
  obtain ⟨bC, hbC⟩ : ∃ b, decide (0 ≤ Lib.indexByte s.data.toList 44) = b := ⟨_, rfl⟩
  obtain ⟨ba, hba⟩ : ∃ b, s.data.toList.all VP.okP = b := ⟨_, rfl⟩
  have hl := size_eq_length s
  have F := Lib.hid (VP.pathP_prog s.data.toList)
  rw [hbS, hbC, ← hl] at F
  have HA := Lib.hid hba
  have CS := Lib.hid (show Calls Tryz.prog 138 #[.string s, .string ⟨#[47, 47]⟩] w fun e w' => e = .returned (.bool bS) ∧ w = w' from by
    obtain ⟨⟨m, hm⟩, _⟩ := hE
    exact (Tryz.strings_Contains s ⟨#[47, 47]⟩ m w (by omega) hm).mono fun e w' ⟨he, hw⟩ => ⟨by rw [he, ← hbS], hw.symm⟩)
  have CC := Lib.hid (show Calls Tryz.prog 138 #[.string s, .string ⟨#[44]⟩] w fun e w' => e = .returned (.bool bC) ∧ w = w' from
    (Tryz.strings_Contains_one s 44 w).mono fun e w' ⟨he, hw⟩ => ⟨by rw [he, ← hbC], hw.symm⟩)
  have HL := Lib.hid hl
  clear hbS hbC hba hl hE
  go_enter Tryz.func74, Tryz.ntmps74
  go_wp2_with fail
  go_loop [7] (fun i => ∃ k : Nat, k ≤ s.size ∧ i = .int .i64 k ∧ Hid ((s.data.toList.take k).all VP.okP = true)) (fun i => s.size - (intOf i).toNat)
  case atStart => exact ⟨0, Nat.zero_le _, rfl, rfl⟩
  case round =>
    obtain ⟨k, hk, rfl, hall⟩ := hrel
    by_cases hlt : k < s.size
    · have hts := Lib.hid (take_snoc s k hlt)
      have hbad := Lib.hid (okP_at (s := s) (k := k) hlt)
      have hbt : s[k].toNat < 256 := s[k].toNat_lt
      have ho := Lib.hid (show VP.okP s[k] = (decide (33 ≤ s[k].toNat) && decide (s[k].toNat ≤ 126)) from rfl)
      by_cases h1 : s[k].toNat < 33
      · go_wp2_with fail
        go_ret
        exact ⟨ret_bool (by rw [F.out, hbad.out (by rw [ho.out, decide_eq_false (by omega)]; rfl)] <;> rfl), Below.refl _ _⟩
      by_cases h2 : 126 < s[k].toNat
      · go_wp2_with fail
        go_ret
        exact ⟨ret_bool (by rw [F.out, hbad.out (by rw [ho.out, decide_eq_false (by omega : ¬ s[k].toNat ≤ 126), Bool.and_false])] <;> rfl), Below.refl _ _⟩
      have HP : Hid (VP.okP s[k] = true) := Lib.hid (by rw [ho.out, decide_eq_true (by omega), decide_eq_true (by omega)]; rfl)
      go_wp2_with fail
      go_round
      case rel => exact ⟨k + 1, by omega, by go_num, Lib.hid (by rw [hts.out, List.all_append, hall.out]; simp [HP.out])⟩
      case measure => simp [intOf]; omega
    · have ha : Hid (s.data.toList.all VP.okP = true) := Lib.hid (by
        have hl := HL.out
        have := hall.out
        rwa [List.take_of_length_le (by omega)] at this)
      clear hall HA
      rw [ha.out] at F
      clear ha
      by_cases h0 : s.size = 0
      · have hz := isEmpty_true s h0
        go_wp2_with fail
        go_ret
        exact ⟨ret_bool (by rw [F.out, decide_eq_false (by omega : ¬ 1 ≤ s.size)]; rfl), Below.refl _ _⟩
      have hz := isEmpty_false s (by omega)
      by_cases h60 : s.size ≤ 60
      case neg =>
        go_wp2_with fail
        go_ret
        exact ⟨ret_bool (by rw [F.out, decide_eq_false h60]; simp), Below.refl _ _⟩
      cases bS with
      | true =>
        go_wp2_with fail
        refine CS.out.mono ?_
        rintro E w' ⟨rfl, rfl⟩
        go_wp2_with fail
        go_ret
        exact ⟨ret_bool (by rw [F.out]; simp), Below.refl _ _⟩
      | false =>
      cases bC with
      | true =>
        go_wp2_with fail
        refine CS.out.mono ?_
        rintro E w' ⟨rfl, rfl⟩
        go_wp2_with fail
        refine CC.out.mono ?_
        rintro E w' ⟨rfl, rfl⟩
        go_wp2_with fail
        go_ret
        exact ⟨ret_bool (by rw [F.out]; simp), Below.refl _ _⟩
      | false =>
      obtain ⟨n, hn⟩ : ∃ n, s.size = n + 1 := ⟨s.size - 1, by omega⟩
      have hlast := Lib.hid (last_get s n hn)
      have hst := Lib.hid (startsP_eq s (by omega))
      have hbt : s[0].toNat < 256 := s[0].toNat_lt
      have hnt : (s[n]'(by omega)).toNat < 256 := (s[n]'(by omega)).toNat_lt
      have hf := Lib.hid (show VP.lett s[0] = decide ((97 ≤ s[0].toNat ∧ s[0].toNat ≤ 122) ∨ (65 ≤ s[0].toNat ∧ s[0].toNat ≤ 90)) by unfold VP.lett; simp)
      have hg := Lib.hid (show VP.dig s[0] = decide (48 ≤ s[0].toNat ∧ s[0].toNat ≤ 57) by unfold VP.dig; simp)
      go_wp2_with fail
      refine CS.out.mono ?_
      rintro E w' ⟨rfl, rfl⟩
      go_wp2_with fail
      refine CC.out.mono ?_
      rintro E w' ⟨rfl, rfl⟩
      by_cases h47 : (s[n]'(by omega)).toNat = 47
      · have h47' : (s[n]'(by omega)) = 47 := UInt8.toNat_inj.1 h47
        go_wp2_with fail
        go_ret
        exact ⟨ret_bool (by rw [F.out, hlast.out, h47']; simp), Below.refl _ _⟩
      have h47' : ((some (s[n]'(by omega)) : Option UInt8) == some 47) = false := by
        rw [beq_eq_false_iff_ne]
        intro e
        injection e with e
        exact h47 (by rw [e]; rfl)
      have G := Lib.hid (show VP.pathP s.data.toList = (VP.lett s[0] || VP.dig s[0]) by rw [F.out, hlast.out, h47', hst.out, decide_eq_true (by omega : 1 ≤ s.size), decide_eq_true h60]; simp)
      clear F hlast hst h47'
      have hb47 : (((s[n]'(by omega)).toNat : Int) != 47) = true := by rw [bne_iff_ne]; omega
      go_upto_region 8 with fail
      have hc : s[0].toNat < 48 ∨ (48 ≤ s[0].toNat ∧ s[0].toNat ≤ 57) ∨ (58 ≤ s[0].toNat ∧ s[0].toNat < 65) ∨ (65 ≤ s[0].toNat ∧ s[0].toNat ≤ 90) ∨ (91 ≤ s[0].toNat ∧ s[0].toNat < 97) ∨ (97 ≤ s[0].toNat ∧ s[0].toNat ≤ 122) ∨ 123 ≤ s[0].toNat := by omega
      rcases hc with h | ⟨h1, h2⟩ | ⟨h1, h2⟩ | ⟨h1, h2⟩ | ⟨h1, h2⟩ | ⟨h1, h2⟩ | h
      all_goals
        go_wp2_with fail
        go_ret
        refine ⟨ret_bool ?_, Below.refl _ _⟩
        rw [G.out, hf.out, hg.out, Bool.eq_iff_iff]
        simp <;> omega

theorem pathF_calls (s : ByteArray) (w : World) (hE : Env w) (hs : s.size ≤ 1000000) : Calls Tryz.prog 18 #[.string s] w (BoolIs (VP.pathP s.data.toList) w) := by
  have H := Lib.hid (path_calls s w hE hs)
  clear hE
  go_enter Tryz.func18, Tryz.ntmps18
  go_wp2_with fail
  refine H.out.mono ?_
  rintro E w1 ⟨rfl, hb⟩
  go_wp2_with fail
  go_ret
  exact ⟨rfl, hb⟩
end Go.Proofs.YtodbbfgkclkpgaaGreatDoor
