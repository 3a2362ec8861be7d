/- The reference's Path: which paths may be. · depend.Name, and the reference's PackName: may a package be called so. · The reference's PackName: may a package be called so. · The reference's gap and bare. · What the walks over terms share: short texts, what is asked for as lists, one of some. · What depend.term calls, in our words: blanks at the ends, a bracket, a sign ahead. · depend.term: a package that is asked for, read. -/
import Derived.Test.YtofogjfemlhffaaGreatDoorSPK4
import Derived.Test.YtofogjfemlhffaaGreatDoorSPK3
import Derived.Deep.RegionHeld3
import Derived.Deep.DeepCutAuto
import Derived.Deep.CutBlock
namespace Go.Proofs.YtofogjfemlhffaaGreatDoor
open Go.RowKit

/-! the reference's -/
theorem refOk_at (s : ByteArray) (k : Nat) (hlt : k < s.size) : VP.refOk s.data.toList k = (VP.okP s[k] && !(s[k] == 44) && !(s[k] == 47 && (match s.data.toList[k + 1]? with
    | none => true
    | some d => d == 47))) := by
  unfold VP.refOk
  rw [show s.data.toList[k]? = some s[k] from by rw [List.getElem?_eq_getElem (by rw [← size_eq_length]; exact hlt)]; rfl]
  all_goals rfl
theorem get_next (s : ByteArray) (k : Nat) (hlt : k + 1 < s.size) : s.data.toList[k + 1]? = some (s[k + 1]'hlt) := by
  rw [List.getElem?_eq_getElem (by rw [← size_eq_length]; exact hlt)]; rfl
theorem u8_beq (c : UInt8) (n : Nat) (h : n < 256) : (c == UInt8.ofNat n) = decide (c.toNat = n) := by
  rw [Bool.eq_iff_iff, beq_iff_eq, decide_eq_true_iff]
  constructor
  · rintro rfl; simp; omega
  · intro e; rw [← e]; simp

set_option maxHeartbeats 6000000 in
set_option maxRecDepth 100000 in
theorem refPath_calls (s : ByteArray) (w : World) (hs : s.size ≤ 1000000) : Calls Tryz.prog 69 #[.string s] w (BoolIs (VP.pathP s.data.toList) w) := by
  have hl := size_eq_length s
  have F := Lib.hid (VP.pathP_ref s.data.toList)
  rw [← hl] at F
  have HL := Lib.hid hl
  clear hl
  go_enter Tryz.func69, Tryz.ntmps69
  go_wp2_with fail
  go_loop [6] (fun i => ∃ k : Nat, k ≤ s.size ∧ i = .int .i64 k ∧ Hid (∀ j, j < k → VP.refOk s.data.toList j = true)) (fun i => s.size - (intOf i).toNat)
  case atStart => exact ⟨0, Nat.zero_le _, rfl, fun j h => absurd h (Nat.not_lt_zero _)⟩
  case round =>
    obtain ⟨k, hk, rfl, hall⟩ := hrel
    by_cases hlt : k < s.size
    · have hbt : s[k].toNat < 256 := s[k].toNat_lt
      have hr := Lib.hid (refOk_at s k hlt)
      have hstop := Lib.hid (fun (h : VP.refOk s.data.toList k = false) => VP.allAt_false hlt h)
      have hok := Lib.hid (fun (h : VP.refOk s.data.toList k = true) => (show ∀ j, j < k + 1 → VP.refOk s.data.toList j = true from fun j hj => by
        rcases Nat.lt_or_ge j k with h' | h'
        · exact hall.out j h'
        · obtain rfl : j = k := by omega
          exact h))
      have ho := Lib.hid (show VP.okP s[k] = inB (s[k].toNat : Int) 33 126 by unfold VP.okP inB; rw [Bool.eq_iff_iff]; simp; omega)
      have e44 := Lib.hid (u8_beq s[k] 44 (by omega))
      have e47 := Lib.hid (u8_beq s[k] 47 (by omega))
      obtain ⟨bi, hbi⟩ : ∃ b, inB (s[k].toNat : Int) 33 126 = b := ⟨_, rfl⟩
      have HI := Lib.hid hbi
      have CI := Lib.hid (fun (W : World) => in_calls (s[k].toNat : Int) 33 126 W)
      rw [hbi] at CI
      clear hbi
      cases bi with
      | false =>
        have HF := Lib.hid (show VP.pathP s.data.toList = false by rw [F.out, hstop.out (by rw [hr.out, ho.out, HI.out]; rfl)]; rfl)
        clear hr hstop hok ho e44 e47 HI F HL hall
        go_wp2_with (go_at_call 95; refine (CI.out _).mono ?_; rintro e w' ⟨rfl, rfl⟩)
        go_ret
        exact ⟨ret_bool HF.out.symm, Below.refl _ _⟩
      | true =>
      have hc : s[k].toNat = 44 ∨ (s[k].toNat = 47 ∧ (k + 1 = s.size ∨ ∃ h : k + 1 < s.size, (s[k + 1]'h).toNat = 47)) ∨ (s[k].toNat ≠ 44 ∧ (s[k].toNat ≠ 47 ∨ ∃ h : k + 1 < s.size, (s[k + 1]'h).toNat ≠ 47)) := by
        by_cases h44 : s[k].toNat = 44
        · exact .inl h44
        by_cases h47 : s[k].toNat = 47
        · by_cases hd : k + 1 = s.size
          · exact .inr (.inl ⟨h47, .inl hd⟩)
          · have hlt2 : k + 1 < s.size := by omega
            by_cases h48 : (s[k + 1]'hlt2).toNat = 47
            · exact .inr (.inl ⟨h47, .inr ⟨hlt2, h48⟩⟩)
            · exact .inr (.inr ⟨h44, .inr ⟨hlt2, h48⟩⟩)
        · exact .inr (.inr ⟨h44, .inl h47⟩)
      have b44 : s[k].toNat ≠ 44 → (s[k] == 44) = false := fun h => (u8_beq s[k] 44 (by omega)).trans (decide_eq_false h)
      have c44 : s[k].toNat = 44 → (s[k] == 44) = true := fun h => (u8_beq s[k] 44 (by omega)).trans (decide_eq_true h)
      have c47 : s[k].toNat = 47 → (s[k] == 47) = true := fun h => (u8_beq s[k] 47 (by omega)).trans (decide_eq_true h)
      have b47 : s[k].toNat ≠ 47 → (s[k] == 47) = false := fun h => (u8_beq s[k] 47 (by omega)).trans (decide_eq_false h)
      rcases hc with h44 | ⟨h47, hd | ⟨hlt2, h48⟩⟩ | ⟨h44, h47 | ⟨hlt2, h48⟩⟩
      · have HF := Lib.hid (show VP.pathP s.data.toList = false by rw [F.out, hstop.out (by rw [hr.out, c44 h44]; simp)]; rfl)
        have Ea44 : ((s[k].toNat : Int) == 44) = true := by rw [beq_iff_eq]; omega
        clear hr hstop hok ho e44 e47 HI F HL hall b44 c44 c47 b47 h44
        go_wp2_with (go_at_call 95; refine (CI.out _).mono ?_; rintro e w' ⟨rfl, rfl⟩)
        go_ret
        exact ⟨ret_bool HF.out.symm, Below.refl _ _⟩
      · have hn : s.data.toList[k + 1]? = none := List.getElem?_eq_none (by rw [← HL.out]; omega)
        have HF := Lib.hid (show VP.pathP s.data.toList = false by rw [F.out, hstop.out (by rw [hr.out, hn, c47 h47]; simp)]; rfl)
        have Ea44 : ((s[k].toNat : Int) == 44) = false := by rw [beq_eq_false_iff_ne]; omega
        have Ea47 : ((s[k].toNat : Int) == 47) = true := by rw [beq_iff_eq]; omega
        clear hr hstop hok ho e44 e47 HI F HL hall b44 c44 c47 b47 hn h47
        go_wp2_with (go_at_call 95; refine (CI.out _).mono ?_; rintro e w' ⟨rfl, rfl⟩)
        go_ret
        exact ⟨ret_bool HF.out.symm, Below.refl _ _⟩
      · have hn := get_next s k hlt2
        have hnb : (s[k + 1]'hlt2).toNat < 256 := (s[k + 1]'hlt2).toNat_lt
        have h2 : ((s[k + 1]'hlt2) == 47) = true := (u8_beq (s[k + 1]'hlt2) 47 (by omega)).trans (decide_eq_true h48)
        have HF := Lib.hid (show VP.pathP s.data.toList = false by rw [F.out, hstop.out (by rw [hr.out, hn, c47 h47]; simp [h2])]; rfl)
        have Ea44 : ((s[k].toNat : Int) == 44) = false := by rw [beq_eq_false_iff_ne]; omega
        have Ea47 : ((s[k].toNat : Int) == 47) = true := by rw [beq_iff_eq]; omega
        have Eb47 : (((s[k + 1]'hlt2).toNat : Int) == 47) = true := by rw [beq_iff_eq]; omega
        have hkl : ((k : Int) == (s.size : Int) - 1) = false := by rw [beq_eq_false_iff_ne]; omega
        clear hr hstop hok ho e44 e47 HI F HL hall b44 c44 c47 b47 hn h2 h47 h48
        go_wp2_with (go_at_call 95; refine (CI.out _).mono ?_; rintro e w' ⟨rfl, rfl⟩)
        go_ret
        exact ⟨ret_bool HF.out.symm, Below.refl _ _⟩
      · have HK := Lib.hid (hok.out (by rw [hr.out, ho.out, HI.out, b44 h44, b47 h47]; rfl))
        have Ea44 : ((s[k].toNat : Int) == 44) = false := by rw [beq_eq_false_iff_ne]; omega
        have Ea47 : ((s[k].toNat : Int) == 47) = false := by rw [beq_eq_false_iff_ne]; omega
        clear hr hstop hok ho e44 e47 HI hall b44 c44 c47 b47 h44 h47
        go_wp2_with (go_at_call 95; refine (CI.out _).mono ?_; rintro e w' ⟨rfl, rfl⟩)
        go_round
        case rel => exact ⟨k + 1, by omega, by go_num, HK⟩
        case measure => simp [intOf]; omega
      · have hn := get_next s k hlt2
        have hnb : (s[k + 1]'hlt2).toNat < 256 := (s[k + 1]'hlt2).toNat_lt
        have h2 : ((s[k + 1]'hlt2) == 47) = false := (u8_beq (s[k + 1]'hlt2) 47 (by omega)).trans (decide_eq_false h48)
        have HK := Lib.hid (hok.out (by rw [hr.out, ho.out, HI.out, b44 h44, hn]; simp [h2]))
        have Ea44 : ((s[k].toNat : Int) == 44) = false := by rw [beq_eq_false_iff_ne]; omega
        have Eb47 : (((s[k + 1]'hlt2).toNat : Int) == 47) = false := by rw [beq_eq_false_iff_ne]; omega
        have hkl : ((k : Int) == (s.size : Int) - 1) = false := by rw [beq_eq_false_iff_ne]; omega
        clear hr hstop hok ho e44 e47 HI hall b44 c44 c47 b47 hn h2 h44 h48
        by_cases h47 : s[k].toNat = 47
        · have Ea47 : ((s[k].toNat : Int) == 47) = true := by rw [beq_iff_eq]; omega
          clear h47
          go_wp2_with (go_at_call 95; refine (CI.out _).mono ?_; rintro e w' ⟨rfl, rfl⟩)
          go_round
          case rel => exact ⟨k + 1, by omega, by go_num, HK⟩
          case measure => simp [intOf]; omega
        · have Ea47 : ((s[k].toNat : Int) == 47) = false := by rw [beq_eq_false_iff_ne]; omega
          clear h47
          go_wp2_with (go_at_call 95; refine (CI.out _).mono ?_; rintro e w' ⟨rfl, rfl⟩)
          go_round
          case rel => exact ⟨k + 1, by omega, by go_num, HK⟩
          case measure => simp [intOf]; omega
    · have ha := Lib.hid (show VP.allAt s.size (VP.refOk s.data.toList) = true from VP.allAt_true (fun j hj => hall.out j (by omega)))
      rw [ha.out] at F
      clear hall
      by_cases h0 : s.size = 0
      · have HF := Lib.hid (show VP.pathP s.data.toList = false by rw [F.out, decide_eq_false (by omega : ¬ 1 ≤ s.size)]; rfl)
        have hin := Lib.hid (fun (W : World) => in_calls (s.size : Int) 1 60 W)
        have hf : inB (s.size : Int) 1 60 = false := by unfold inB; rw [decide_eq_false (by omega)]; rfl
        rw [hf] at hin
        clear hf h0 F
        go_wp2_with (go_at_call 95; refine (hin.out _).mono ?_; rintro e w' ⟨rfl, rfl⟩)
        go_ret
        exact ⟨ret_bool HF.out.symm, Below.refl _ _⟩
      have hin := Lib.hid (fun (W : World) => in_calls (s.size : Int) 1 60 W)
      by_cases h60 : s.size ≤ 60
      case neg =>
        have hf : inB (s.size : Int) 1 60 = false := by unfold inB; rw [decide_eq_false (by omega : ¬ (s.size : Int) ≤ 60), Bool.and_false]
        rw [hf] at hin
        clear hf
        go_wp2_with (go_at_call 95; refine (hin.out _).mono ?_; rintro e w' ⟨rfl, rfl⟩)
        go_ret
        exact ⟨ret_bool (by rw [F.out, decide_eq_false h60]; simp), Below.refl _ _⟩
      have hf : inB (s.size : Int) 1 60 = true := by unfold inB; rw [decide_eq_true (by omega), decide_eq_true (by omega)]; rfl
      rw [hf] at hin
      clear hf
      have hst := Lib.hid (startsP_eq s (by omega))
      have G := Lib.hid (show VP.pathP s.data.toList = (VP.lett s[0] || VP.dig s[0]) by rw [F.out, hst.out, decide_eq_true (by omega : 1 ≤ s.size), decide_eq_true h60]; simp)
      clear F hst
      obtain ⟨bd, hbd⟩ : ∃ b, VP.dig s[0] = b := ⟨_, rfl⟩
      obtain ⟨bt, hbt⟩ : ∃ b, VP.lett s[0] = b := ⟨_, rfl⟩
      have CD := Lib.hid (fun (W : World) => digit_calls s[0] W)
      have CL := Lib.hid (fun (W : World) => letter_calls s[0] W)
      rw [hbd] at CD G
      rw [hbt] at CL G
      clear hbd hbt
      cases bd with
      | true =>
        go_wp2_with (first | (go_at_call 95; refine (hin.out _).mono ?_; rintro e w' ⟨rfl, rfl⟩) | (go_at_call 96; refine (CD.out _).mono ?_; rintro e w' ⟨rfl, rfl⟩))
        go_ret
        exact ⟨ret_bool (by rw [G.out]; simp), Below.refl _ _⟩
      | false =>
        go_wp2_with (first | (go_at_call 95; refine (hin.out _).mono ?_; rintro e w' ⟨rfl, rfl⟩) | (go_at_call 96; refine (CD.out _).mono ?_; rintro e w' ⟨rfl, rfl⟩) | (go_at_call 97; refine (CL.out _).mono ?_; rintro e w' ⟨rfl, rfl⟩))
        go_ret
        exact ⟨ret_bool (by rw [G.out]; simp), Below.refl _ _⟩
end Go.Proofs.YtofogjfemlhffaaGreatDoor

namespace Go.Proofs.YtofogjfemlhffaaGreatDoor
open Go.RowKit

theorem bne_of_true {a b : Int} (h : (a == b) = true) : (a != b) = false := by rw [bne, h]; rfl
theorem bne_of_false {a b : Int} (h : (a == b) = false) : (a != b) = true := by rw [bne, h]; rfl

/-- a name's bytes, from left to right -/
def goodN : List UInt8 → Bool
  | [] => true
  | c :: r => VP.nm0 c && r.all VP.nm1

theorem nm0_nm1 (c : UInt8) (h : VP.nm0 c = true) : VP.nm1 c = true := by unfold VP.nm1; rw [h]; rfl

theorem nameP_good (l : List UInt8) : VP.nameP l = (inB (l.length : Int) 2 24 && goodN l) := by
  unfold VP.nameP inB
  have e1 : decide ((2 : Int) ≤ (l.length : Int)) = decide (2 ≤ l.length) := decide_eq_decide.2 (by omega)
  have e2 : decide ((l.length : Int) ≤ 24) = decide (l.length ≤ 24) := decide_eq_decide.2 (by omega)
  rw [e1, e2]
  cases l with
  | nil => rfl
  | cons c r =>
    rw [List.all_cons, Bool.and_assoc]
    congr 1
    show (VP.nm0 c && (VP.nm1 c && r.all VP.nm1)) = (VP.nm0 c && r.all VP.nm1)
    cases hc : VP.nm0 c with
    | false => rfl
    | true => rw [nm0_nm1 c hc]; rfl

theorem goodN_append {a : List UInt8} (ha : a ≠ []) (b : List UInt8) : goodN (a ++ b) = (goodN a && b.all VP.nm1) := by
  cases a with
  | nil => exact absurd rfl ha
  | cons c r =>
    show (VP.nm0 c && (r ++ b).all VP.nm1) = ((VP.nm0 c && r.all VP.nm1) && b.all VP.nm1)
    rw [List.all_append, Bool.and_assoc]

def firstL : List UInt8 := [97, 98, 99, 100, 101, 102, 103, 104, 105, 106, 107, 108, 109, 110, 111, 112, 113, 114, 115, 116, 117, 118, 119, 120, 121, 122, 48, 49, 50, 51, 52, 53, 54, 55, 56, 57]
def firstS : ByteArray := ⟨#[97, 98, 99, 100, 101, 102, 103, 104, 105, 106, 107, 108, 109, 110, 111, 112, 113, 114, 115, 116, 117, 118, 119, 120, 121, 122, 48, 49, 50, 51, 52, 53, 54, 55, 56, 57]⟩
def idxN (c : UInt8) : Int := Lib.indexByte firstL c
theorem idxN_fin : ∀ i : Fin 256, decide (0 ≤ idxN (UInt8.ofNat i.val)) = VP.nm0 (UInt8.ofNat i.val) := by decide +kernel
theorem idxN_nm0 (c : UInt8) : decide (0 ≤ idxN c) = VP.nm0 c := by
  have := idxN_fin ⟨c.toNat, c.toNat_lt⟩
  simpa using this
set_option maxRecDepth 100000 in
theorem call_idxN (c : UInt8) (w : World) : Calls Tryz.prog 112 #[.string ⟨#[97, 98, 99, 100, 101, 102, 103, 104, 105, 106, 107, 108, 109, 110, 111, 112, 113, 114, 115, 116, 117, 118, 119, 120, 121, 122, 48, 49, 50, 51, 52, 53, 54, 55, 56, 57]⟩, .int .u8 (c.toNat : Int)] w fun e w' => e = .returned (.int .i64 (idxN c)) ∧ w = w' :=
  (Tryz.strings_IndexByte firstS (c.toNat : Int) w).mono fun e w' ⟨he, hw⟩ => ⟨by rw [he]; unfold idxN; simp [firstS, firstL], hw.symm⟩

def cutN : List UInt8 := firstL ++ [43, 45, 46]
theorem cutN_ok : ∀ i : Fin 256, cutN.contains (UInt8.ofNat i.val) = VP.nm1 (UInt8.ofNat i.val) := by decide +kernel
theorem cutN_asc : (cutN.all fun b => decide (b.toNat < 128)) = true := by decide

set_option maxHeartbeats 1000000 in
set_option maxRecDepth 100000 in
theorem name_calls (s : ByteArray) (w : World) : Calls Tryz.prog 78 #[.string s] w (BoolIs (VP.nameP s.data.toList) w) := by
  have hl := size_eq_length s
  have F := Lib.hid (show VP.nameP s.data.toList = (decide (2 ≤ s.size) && decide (s.size ≤ 24) && VP.startsNm s.data.toList && s.data.toList.all VP.nm1) by unfold VP.nameP; rw [hl])
  clear hl
  by_cases h2 : 2 ≤ s.size
  · by_cases h24 : s.size ≤ 24
    · have hst := Lib.hid (show VP.startsNm s.data.toList = VP.nm0 s[0] by rw [list_cons s (by omega)]; rfl)
      have hd : VP.nm0 s[0] = true ∨ VP.nm0 s[0] = false := by cases VP.nm0 s[0] <;> simp
      rcases hd with hd | hd
      · have hi : 0 ≤ idxN s[0] := of_decide_eq_true ((idxN_nm0 s[0]).trans hd)
        have HD := Lib.hid hd
        clear hd
        have ha : s.data.toList.all VP.nm1 = true ∨ s.data.toList.all VP.nm1 = false := by cases s.data.toList.all VP.nm1 <;> simp
        go_enter Tryz.func78, Tryz.ntmps78
        go_wp2_with (go_at_call 112; refine (call_idxN _ _).mono ?_; rintro E w' ⟨rfl, rfl⟩)
        refine (call_trimAll s _ cutN VP.nm1 _ (by rfl) cutN_ok cutN_asc (by decide) (by omega)).mono ?_
        rintro E w1 ⟨t, rfl, ht, hb⟩
        rcases ha with ha | ha
        · have ht' : t.toList.isEmpty = true := Eq.trans ht ha
          have HA := Lib.hid ha
          clear ht ha
          go_wp2_with fail
          go_ret
          exact ⟨ret_bool (by rw [F.out, hst.out, HD.out, HA.out] <;> simp <;> omega), hb⟩
        · have ht' : t.toList.isEmpty = false := Eq.trans ht ha
          have HA := Lib.hid ha
          clear ht ha
          go_wp2_with fail
          go_ret
          exact ⟨ret_bool (by rw [F.out, HA.out] <;> simp), hb⟩
      · have hi : ¬ 0 ≤ idxN s[0] := of_decide_eq_false ((idxN_nm0 s[0]).trans hd)
        have HD := Lib.hid hd
        clear hd
        go_enter Tryz.func78, Tryz.ntmps78
        go_wp2_with (go_at_call 112; refine (call_idxN _ _).mono ?_; rintro E w' ⟨rfl, rfl⟩)
        go_ret
        exact ⟨ret_bool (by rw [F.out, hst.out, HD.out] <;> simp), Below.refl _ _⟩
    · go_enter Tryz.func78, Tryz.ntmps78
      go_wp2_with fail
      go_ret
      exact ⟨ret_bool (by rw [F.out, decide_eq_false h24] <;> simp), Below.refl _ _⟩
  · go_enter Tryz.func78, Tryz.ntmps78
    go_wp2_with fail
    go_ret
    exact ⟨ret_bool (by rw [F.out, decide_eq_false h2] <;> simp), Below.refl _ _⟩
end Go.Proofs.YtofogjfemlhffaaGreatDoor

namespace Go.Proofs.YtofogjfemlhffaaGreatDoor
open Go.RowKit

theorem low_iff (c : UInt8) : VP.low c = true ↔ 97 ≤ c.toNat ∧ c.toNat ≤ 122 := by unfold VP.low; simp
set_option maxHeartbeats 1000000 in
set_option maxRecDepth 100000 in
theorem packName_calls (s : ByteArray) (w : World) (hs : s.size ≤ 1000000) : Calls Tryz.prog 90 #[.string s] w fun E w' => E = .returned (.bool (VP.nameP s.data.toList)) ∧ w = w' := by
  have HL := Lib.hid (size_eq_length s)
  have F := Lib.hid (nameP_good s.data.toList)
  go_enter Tryz.func90, Tryz.ntmps90
  go_wp2_with fail
  go_loop [7] (fun i => ∃ k : Nat, k ≤ s.size ∧ i = .int .i64 k ∧ Hid (goodN (s.data.toList.take k) = true)) (fun i => s.size - (intOf i).toNat)
  case atStart => exact ⟨0, Nat.zero_le _, rfl, rfl⟩
  case round =>
    obtain ⟨k, hk, rfl, hall⟩ := hrel
    by_cases hlt : k < s.size
    · have hts := Lib.hid (take_snoc s k hlt)
      have hdr := Lib.hid (drop_cons s k hlt)
      have hbt : s[k].toNat < 256 := s[k].toNat_lt
      obtain ⟨c, hc⟩ : ∃ c, s[k] = c := ⟨_, rfl⟩
      -- on: the byte is one of a name's
      have hon : Hid (goodN (s.data.toList.take k ++ [s[k]]) = true → goodN (s.data.toList.take (k + 1)) = true) := fun h => by rw [hts.out]; exact h
      have hoff : Hid (goodN (s.data.toList.take k ++ [s[k]]) = false → goodN s.data.toList = false) := fun h => by
        rw [← List.take_append_drop (k + 1) s.data.toList, hts.out, goodN_append (by simp), h]; rfl
      have hnil : Hid (k = 0 → s.data.toList.take k = []) := fun h => by rw [h]; rfl
      have hcons : Hid (0 < k → s.data.toList.take k ≠ []) := fun h e => by
        have := congrArg List.length e
        rw [List.length_take, ← HL.out, List.length_nil] at this
        omega
      clear hc
      by_cases hlow : VP.low s[k] = true
      · have h1 := (low_iff _).1 hlow
        have HP : Hid (goodN (s.data.toList.take (k + 1)) = true) := by
          refine hon.out ?_
          have h0 : VP.nm0 s[k] = true := by unfold VP.nm0; rw [hlow]; rfl
          by_cases hk0 : k = 0
          · rw [hnil.out hk0]; show (VP.nm0 s[k] && true) = true; rw [h0]; rfl
          · rw [goodN_append (hcons.out (by omega)), hall.out]; show (true && (VP.nm1 s[k] && true)) = true; rw [nm0_nm1 _ h0]; rfl
        have ha : 97 ≤ s[k].toNat := h1.1
        have hb : s[k].toNat ≤ 122 := h1.2
        clear hlow h1
        go_wp2_with fail
        go_round
        case rel => exact ⟨k + 1, by omega, by go_num, HP⟩
        case measure => simp [intOf]; omega
      · have hlo : s[k].toNat < 97 ∨ (122 < s[k].toNat ∧ decide (((s[k].toNat : Nat) : Int) ≤ 122) = false) := by
          have h' : ¬ (97 ≤ s[k].toNat ∧ s[k].toNat ≤ 122) := fun h => hlow ((low_iff s[k]).2 h)
          rcases Nat.lt_or_ge s[k].toNat 97 with h | h
          · exact .inl h
          · exact .inr ⟨by omega, decide_eq_false (by omega)⟩
        have HLO := Lib.hid (show VP.low s[k] = false by simpa using hlow)
        clear hlow
        have hd : VP.dig s[k] = true ∨ VP.dig s[k] = false := by cases VP.dig s[k] <;> simp
        rcases hd with hd | hd
        · have HP : Hid (goodN (s.data.toList.take (k + 1)) = true) := by
            refine hon.out ?_
            have h0 : VP.nm0 s[k] = true := by unfold VP.nm0; rw [hd]; simp
            by_cases hk0 : k = 0
            · rw [hnil.out hk0]; show (VP.nm0 s[k] && true) = true; rw [h0]; rfl
            · rw [goodN_append (hcons.out (by omega)), hall.out]; show (true && (VP.nm1 s[k] && true)) = true; rw [nm0_nm1 _ h0]; rfl
          rcases hlo with hlo | ⟨hlo, hz⟩
          all_goals
            go_wp2_with (go_at_call 96; refine (digit_calls _ _).mono ?_; rintro e w' ⟨rfl, rfl⟩)
            go_round
            case rel => exact ⟨k + 1, by omega, by go_num, HP⟩
            case measure => simp [intOf]; omega
        · have H0 : Hid (VP.nm0 s[k] = false) := by unfold VP.nm0; rw [HLO.out, hd]; exact rfl
          by_cases hk0 : k = 0
          · have HP : Hid (goodN s.data.toList = false) := hoff.out (by rw [hnil.out hk0]; show (VP.nm0 s[k] && true) = false; rw [H0.out]; rfl)
            have hkb : ((k : Int) == 0) = true := by rw [beq_iff_eq]; omega
            have HK0 := Lib.hid hk0
            clear hk0
            rcases hlo with hlo | ⟨hlo, hz⟩
            all_goals
              go_wp2_with (go_at_call 96; refine (digit_calls _ _).mono ?_; rintro e w' ⟨rfl, rfl⟩)
              go_ret
              exact ⟨ret_bool (by rw [F.out, HP.out, Bool.and_false]), rfl⟩
          · have hk1 : 0 < k := by omega
            have hkb : ((k : Int) == 0) = false := by rw [beq_eq_false_iff_ne]; omega
            by_cases hs : s[k].toNat = 43 ∨ s[k].toNat = 45 ∨ s[k].toNat = 46
            · have HP : Hid (goodN (s.data.toList.take (k + 1)) = true) := by
                refine hon.out ?_
                rw [goodN_append (hcons.out hk1), hall.out]
                show (true && (VP.nm1 s[k] && true)) = true
                have : VP.nm1 s[k] = true := by
                  unfold VP.nm1
                  rcases hs with h | h | h
                  · rw [show s[k] = 43 from UInt8.toNat_inj.1 h]; rfl
                  · rw [show s[k] = 45 from UInt8.toNat_inj.1 h]; rfl
                  · rw [show s[k] = 46 from UInt8.toNat_inj.1 h]; rfl
                rw [this]; rfl
              have hs' : ((((s[k].toNat : Nat) : Int) == 43) = true) ∨ ((((s[k].toNat : Nat) : Int) == 43) = false ∧ (((s[k].toNat : Nat) : Int) == 45) = true) ∨ ((((s[k].toNat : Nat) : Int) == 43) = false ∧ (((s[k].toNat : Nat) : Int) == 45) = false ∧ (((s[k].toNat : Nat) : Int) == 46) = true) := by
                simp only [beq_iff_eq, beq_eq_false_iff_ne]
                omega
              have hlo' : s[k].toNat < 97 := by omega
              clear hs hk0 hlo
              have hs2 : ((((s[k].toNat : Nat) : Int) == 43) = true ∧ (((s[k].toNat : Nat) : Int) != 43) = false) ∨ ((((s[k].toNat : Nat) : Int) == 43) = false ∧ (((s[k].toNat : Nat) : Int) != 43) = true ∧ (((s[k].toNat : Nat) : Int) == 45) = true ∧ (((s[k].toNat : Nat) : Int) != 45) = false) ∨
                  ((((s[k].toNat : Nat) : Int) == 43) = false ∧ (((s[k].toNat : Nat) : Int) != 43) = true ∧ (((s[k].toNat : Nat) : Int) == 45) = false ∧ (((s[k].toNat : Nat) : Int) != 45) = true ∧ (((s[k].toNat : Nat) : Int) == 46) = true ∧ (((s[k].toNat : Nat) : Int) != 46) = false) := by
                rcases hs' with ha | ⟨ha, hb⟩ | ⟨ha, hb, hc⟩
                · exact .inl ⟨ha, bne_of_true ha⟩
                · exact .inr (.inl ⟨ha, bne_of_false ha, hb, bne_of_true hb⟩)
                · exact .inr (.inr ⟨ha, bne_of_false ha, hb, bne_of_false hb, hc, bne_of_true hc⟩)
              clear hs'
              rcases hs2 with ⟨ha, ha'⟩ | ⟨ha, ha', hb, hb'⟩ | ⟨ha, ha', hb, hb', hc, hc'⟩
              all_goals
                go_wp2_with (go_at_call 96; refine (digit_calls _ _).mono ?_; rintro e w' ⟨rfl, rfl⟩)
                go_round
                case rel => exact ⟨k + 1, by omega, by go_num, HP⟩
                case measure => simp [intOf]; omega
            · have HP : Hid (goodN s.data.toList = false) := by
                refine hoff.out ?_
                rw [goodN_append (hcons.out hk1), hall.out]
                show (true && (VP.nm1 s[k] && true)) = false
                have : VP.nm1 s[k] = false := by
                  unfold VP.nm1
                  rw [H0.out]
                  have h1 : (s[k] == 43) = false := by rw [beq_eq_false_iff_ne]; intro e; exact hs (.inl (by rw [e]; rfl))
                  have h2 : (s[k] == 45) = false := by rw [beq_eq_false_iff_ne]; intro e; exact hs (.inr (.inl (by rw [e]; rfl)))
                  have h3 : (s[k] == 46) = false := by rw [beq_eq_false_iff_ne]; intro e; exact hs (.inr (.inr (by rw [e]; rfl)))
                  rw [h1, h2, h3]; rfl
                rw [this]; rfl
              have n43 : (((s[k].toNat : Nat) : Int) == 43) = false := by rw [beq_eq_false_iff_ne]; omega
              have n45 : (((s[k].toNat : Nat) : Int) == 45) = false := by rw [beq_eq_false_iff_ne]; omega
              have n46 : (((s[k].toNat : Nat) : Int) == 46) = false := by rw [beq_eq_false_iff_ne]; omega
              have m43 := bne_of_false n43
              have m45 := bne_of_false n45
              have m46 := bne_of_false n46
              clear hs hk0
              rcases hlo with hlo | ⟨hlo, hz⟩
              all_goals
                go_wp2_with (go_at_call 96; refine (digit_calls _ _).mono ?_; rintro e w' ⟨rfl, rfl⟩)
                go_ret
                exact ⟨ret_bool (by rw [F.out, HP.out, Bool.and_false]), rfl⟩
    · obtain rfl : k = s.size := by omega
      have HP : Hid (goodN s.data.toList = true) := by
        have := hall.out
        rw [HL.out, List.take_length] at this
        exact this
      go_wp2_with (go_at_call 95; refine (in_calls _ _ _ _).mono ?_; rintro E w' ⟨rfl, rfl⟩)
      go_ret
      exact ⟨ret_bool (by rw [F.out, HP.out, Bool.and_true, HL.out]), rfl⟩
end Go.Proofs.YtofogjfemlhffaaGreatDoor

namespace Go.Proofs.YtofogjfemlhffaaGreatDoor
open Go.RowKit

end Go.Proofs.YtofogjfemlhffaaGreatDoor

namespace Go.Proofs.YtofogjfemlhffaaGreatDoor
open Go.RowKit

/-- texts short enough for all that reads them -/
structure Tv.small (t : Tv) : Prop where
  n : t.n.size ≤ 1000
  u : t.u.size ≤ 1000
  r : t.r.size ≤ 1000
  ok : t.ok

theorem box5 {w w1 : World} {a b c d e : Value} {t : TypeId} (hb : Below (w.alloc (.cells #[a, b, c, d, e] t)).heap.size (w.alloc (.cells #[a, b, c, d, e] t)) w1) :
    w1.cell? ⟨w.heap.size, 0, none⟩ = some a ∧ w1.cell? ⟨w.heap.size, 1, none⟩ = some b ∧ w1.cell? ⟨w.heap.size, 2, none⟩ = some c ∧ w1.cell? ⟨w.heap.size, 3, none⟩ = some d ∧ w1.cell? ⟨w.heap.size, 4, none⟩ = some e :=
  ⟨kept hb (by go_cell), kept hb (by go_cell), kept hb (by go_cell), kept hb (by go_cell), kept hb (by go_cell)⟩

theorem any_stop {α : Type} {p : α → Bool} {l : List α} {k : Nat} {x : α} (hx : l[k]? = some x) (hp : p x = true) : l.any p = true := by
  rw [List.any_eq_true]
  exact ⟨x, List.mem_of_getElem? hx, hp⟩
theorem any_take_succ {α : Type} {p : α → Bool} {l : List α} {k : Nat} {x : α} (h : (l.take k).any p = false) (hx : l[k]? = some x) (hp : p x = false) : (l.take (k + 1)).any p = false := by
  rw [List.take_add_one, hx, List.any_append, h]
  simp [hp]
theorem any_done {α : Type} {p : α → Bool} {l : List α} (h : (l.take l.length).any p = false) : l.any p = false := by rwa [List.take_length] at h

def wrongT (t : Tv) : Bool := !VP.rightT t.tm
def IdxIs (b : Bool) (w : World) (E : Ending) (w' : World) : Prop := ∃ i : Int, E = .returned (.int .i64 i) ∧ decide (0 ≤ i) = b ∧ Below w.heap.size w w'

def tmL (L : List (List Tv)) : List (List VP.Tm) := L.map fun x => x.map Tv.tm
def sumL (L : List (List Tv)) : Nat := (L.map List.length).sum
def goodL (x : List Tv) : Bool := !x.isEmpty && !x.any wrongT

theorem asked_eq (L : List (List Tv)) : VP.askedP (tmL L) = (L.all goodL && decide (sumL L ≤ 30)) := by
  unfold VP.askedP tmL
  rw [List.all_map]
  have e1 : VP.total (L.map fun x => x.map Tv.tm) = sumL L := by
    unfold VP.total sumL
    rw [List.map_map]
    congr 1
    apply List.map_congr_left
    intro x _
    simp
  rw [e1]
  congr 2
  funext x
  show (!(x.map Tv.tm).isEmpty && (x.map Tv.tm).all VP.rightT) = goodL x
  unfold goodL
  have e2 : (x.map Tv.tm).isEmpty = x.isEmpty := by cases x <;> rfl
  have e3 : (x.map Tv.tm).all VP.rightT = !x.any wrongT := by
    rw [List.all_map]
    induction x with
    | nil => rfl
    | cons t x ih =>
      have ih' := ih (by cases x <;> rfl)
      rw [List.all_cons, List.any_cons, ih', Bool.not_or]
      congr 1
      unfold wrongT
      rw [Bool.not_not]
      rfl
  rw [e2, e3]

theorem sumL_take_succ {L : List (List Tv)} {k : Nat} {x : List Tv} (hx : L[k]? = some x) : sumL (L.take (k + 1)) = sumL (L.take k) + x.length := by
  unfold sumL
  rw [List.take_add_one, hx, List.map_append, List.sum_append]
  simp
theorem sumL_take_le (L : List (List Tv)) (k : Nat) : sumL (L.take k) ≤ sumL L := by
  conv => rhs; rw [← List.take_append_drop k L]
  unfold sumL
  rw [List.map_append, List.sum_append]
  omega
end Go.Proofs.YtofogjfemlhffaaGreatDoor

namespace Go.Proofs.YtofogjfemlhffaaGreatDoor
open Go.RowKit

/-- a term in a box of the call's own -/
structure Box5 (W : World) (g : Nat) (n : ByteArray) (op e : Int) (u r : ByteArray) : Prop where
  c0 : W.cell? ⟨g, 0, none⟩ = some (.string n)
  c1 : W.cell? ⟨g, 1, none⟩ = some (.int .i64 op)
  c2 : W.cell? ⟨g, 2, none⟩ = some (.int .i64 e)
  c3 : W.cell? ⟨g, 3, none⟩ = some (.string u)
  c4 : W.cell? ⟨g, 4, none⟩ = some (.string r)
  f0 : W.frozen? ⟨g, 0, none⟩ = false
  f1 : W.frozen? ⟨g, 1, none⟩ = false
  f2 : W.frozen? ⟨g, 2, none⟩ = false
  f3 : W.frozen? ⟨g, 3, none⟩ = false
  f4 : W.frozen? ⟨g, 4, none⟩ = false

theorem Box5.below {W W' : World} {g : Nat} {n : ByteArray} {op e : Int} {u r : ByteArray} (h : Box5 W g n op e u r) (hb : Below W.heap.size W W') : Box5 W' g n op e u r :=
  have hz : g < W.heap.size := cell_lt h.c0
  ⟨kept hb h.c0, kept hb h.c1, kept hb h.c2, kept hb h.c3, kept hb h.c4, keptf hb hz h.f0, keptf hb hz h.f1, keptf hb hz h.f2, keptf hb hz h.f3, keptf hb hz h.f4⟩
theorem Box5.new (W : World) (n : ByteArray) (op e : Int) (u r : ByteArray) (t : TypeId) : Box5 (W.alloc (.cells #[.string n, .int .i64 op, .int .i64 e, .string u, .string r] t)) W.heap.size n op e u r :=
  ⟨by go_cell, by go_cell, by go_cell, by go_cell, by go_cell, by simp [go_sem], by simp [go_sem], by simp [go_sem], by simp [go_sem], by simp [go_sem]⟩
end Go.Proofs.YtofogjfemlhffaaGreatDoor

namespace Go.Proofs.YtofogjfemlhffaaGreatDoor
open Go.RowKit

/-- of some length at most, with numbers that are int's -/
structure Tv.wide (t : Tv) : Prop where
  n : t.n.size ≤ 200000
  u : t.u.size ≤ 200000
  r : t.r.size ≤ 200000
  ok : t.ok

end Go.Proofs.YtofogjfemlhffaaGreatDoor
