/- keep.short: is a version short enough to be held. · What the laws share: short; and a call's contract as a word. · The reference's small functions on bytes and numbers. · The reference's Print, Number: they are the program's. -/
import Derived.Test.YtpbbhjifgaeklaaGreatDoorSTK5
namespace Go.Proofs.YtpbbhjifgaeklaaGreatDoor
open Go.RowKit

def shortB (u r : ByteArray) : Bool := decide (u.size ≤ 100) && decide (r.size ≤ 100)

def BoolIs (b : Bool) (w : World) (E : Ending) (w' : World) : Prop := E = .returned (.bool b) ∧ Below w.heap.size w w'

end Go.Proofs.YtpbbhjifgaeklaaGreatDoor

namespace Go.Proofs.YtpbbhjifgaeklaaGreatDoor
open Go.RowKit

/-- from any world that has grown out of w, this call returns v, and the world grows -/
def Gives (w : World) (f : Nat) (args : Array Value) (v : Value) : Prop :=
  ∀ W, Below w.heap.size w W → Calls Tryz.prog f args W fun E W' => E = .returned v ∧ Below W.heap.size W W'
theorem Gives.at {w : World} {f : Nat} {args : Array Value} {v : Value} (h : Gives w f args v) (W : World) (hb : Below w.heap.size w W) : Calls Tryz.prog f args W fun E W' => E = .returned v ∧ Below W.heap.size W W' := h W hb

set_option maxRecDepth 100000 in
theorem lawShort_calls (e : Int) (u r : ByteArray) (w : World) :
    Calls Tryz.prog 17 #[.agg #[.int .i64 e, .string u, .string r]] w (BoolIs (shortB u r) w) := by
  have hb0 := below_alloc w (.cells #[.int .i64 e, .string u, .string r] 23)
  by_cases h1 : u.size ≤ 100
  · by_cases h2 : r.size ≤ 100
    · have F := Lib.hid (show shortB u r = true by unfold shortB; simp [h1, h2])
      go_enter Tryz.func17, Tryz.ntmps17
      go_wp2
      go_ret
      exact ⟨ret_bool (by rw [F.out] <;> simp <;> omega), hb0⟩
    · have F := Lib.hid (show shortB u r = false by unfold shortB; simp [h2])
      go_enter Tryz.func17, Tryz.ntmps17
      go_wp2
      go_ret
      exact ⟨ret_bool (by rw [F.out] <;> simp <;> omega), hb0⟩
  · have F := Lib.hid (show shortB u r = false by unfold shortB; simp [h1])
    go_enter Tryz.func17, Tryz.ntmps17
    go_wp2
    go_ret
    exact ⟨ret_bool (by rw [F.out] <;> simp <;> omega), hb0⟩
end Go.Proofs.YtpbbhjifgaeklaaGreatDoor

namespace Go.Proofs.YtpbbhjifgaeklaaGreatDoor
open Go.RowKit

def inB (n lo hi : Int) : Bool := decide (lo ≤ n) && decide (n ≤ hi)

theorem in_calls (n lo hi : Int) (w : World) : Calls Tryz.prog 75 #[.int .i64 n, .int .i64 lo, .int .i64 hi] w fun e w' => e = .returned (.bool (inB n lo hi)) ∧ w = w' := by
  by_cases h1 : lo ≤ n
  · by_cases h2 : n ≤ hi
    · have F := Lib.hid (show inB n lo hi = true by unfold inB; simp [h1, h2])
      go_enter Tryz.func75, Tryz.ntmps75
      go_wp2
      go_ret
      exact ⟨ret_bool (by rw [F.out] <;> simp <;> omega), rfl⟩
    · have F := Lib.hid (show inB n lo hi = false by unfold inB; simp [h2])
      go_enter Tryz.func75, Tryz.ntmps75
      go_wp2
      go_ret
      exact ⟨ret_bool (by rw [F.out] <;> simp <;> omega), rfl⟩
  · have F := Lib.hid (show inB n lo hi = false by unfold inB; simp [h1])
    go_enter Tryz.func75, Tryz.ntmps75
    go_wp2
    go_ret
    exact ⟨ret_bool (by rw [F.out] <;> simp <;> omega), rfl⟩

theorem digit_calls (c : UInt8) (w : World) : Calls Tryz.prog 145 #[.int .u8 (c.toNat : Int)] w fun e w' => e = .returned (.bool (VP.dig c)) ∧ w = w' := by
  have hb : c.toNat < 256 := c.toNat_lt
  by_cases h1 : 48 ≤ c.toNat
  · by_cases h2 : c.toNat ≤ 57
    · have F := Lib.hid (show VP.dig c = true by unfold VP.dig; simp [h1, h2])
      go_enter Tryz.func145, Tryz.ntmps145
      go_wp2
      go_ret
      exact ⟨ret_bool (by rw [F.out] <;> simp <;> omega), rfl⟩
    · have F := Lib.hid (show VP.dig c = false by unfold VP.dig; simp; omega)
      go_enter Tryz.func145, Tryz.ntmps145
      go_wp2
      go_ret
      exact ⟨ret_bool (by rw [F.out] <;> simp <;> omega), rfl⟩
  · have F := Lib.hid (show VP.dig c = false by unfold VP.dig; simp; omega)
    go_enter Tryz.func145, Tryz.ntmps145
    go_wp2
    go_ret
    exact ⟨ret_bool (by rw [F.out] <;> simp <;> omega), rfl⟩

theorem letter_calls (c : UInt8) (w : World) : Calls Tryz.prog 213 #[.int .u8 (c.toNat : Int)] w fun e w' => e = .returned (.bool (VP.lett c)) ∧ w = w' := by
  have hb : c.toNat < 256 := c.toNat_lt
  have hc : c.toNat < 65 ∨ (65 ≤ c.toNat ∧ c.toNat ≤ 90) ∨ (91 ≤ c.toNat ∧ c.toNat < 97) ∨ (97 ≤ c.toNat ∧ c.toNat ≤ 122) ∨ 123 ≤ c.toNat := by omega
  have hf : VP.lett c = decide ((97 ≤ c.toNat ∧ c.toNat ≤ 122) ∨ (65 ≤ c.toNat ∧ c.toNat ≤ 90)) := by unfold VP.lett; simp
  have F := Lib.hid hf
  clear hf
  rcases hc with h | ⟨h1, h2⟩ | ⟨h1, h2⟩ | ⟨h1, h2⟩ | h
  all_goals
    go_enter Tryz.func213, Tryz.ntmps213
    go_wp2
    go_ret
    refine ⟨ret_bool ?_, rfl⟩
    rw [F.out, Bool.eq_iff_iff]
    simp <;> omega

/-- of all's bytes: a digit, a letter, or one of some more -/
def allP (more : List UInt8) (c : UInt8) : Bool := VP.dig c || VP.lett c || more.contains c

theorem allP_fst {more : List UInt8} {c : UInt8} (h : VP.dig c = true) : allP more c = true := by unfold allP; rw [h]; rfl
def idxB (s : ByteArray) (c : UInt8) : Int := Lib.indexByte s.data.toList c
theorem call_idxB (s : ByteArray) (c : UInt8) (w : World) : Calls Tryz.prog 140 #[.string s, .int .u8 (c.toNat : Int)] w fun e w' => e = .returned (.int .i64 (idxB s c)) ∧ w = w' :=
  (Tryz.strings_IndexByte s (c.toNat : Int) w).mono fun e w' ⟨he, hw⟩ => ⟨by rw [he]; unfold idxB; simp, hw.symm⟩
theorem idxB_mem (s : ByteArray) (c : UInt8) : decide (0 ≤ idxB s c) = s.data.toList.contains c := indexByte_mem _ _

def AllIs (s more : ByteArray) (w : World) (E : Ending) (w' : World) : Prop := E = .returned (.bool (s.data.toList.all (allP more.data.toList))) ∧ w = w'

set_option maxRecDepth 100000 in
theorem all_calls (s more : ByteArray) (w : World) (hs : s.size ≤ 1000000) : Calls Tryz.prog 146 #[.string s, .string more] w (AllIs s more w) := by
  have hl := size_eq_length s
  have HL := Lib.hid hl
  clear hl
  go_enter Tryz.func146, Tryz.ntmps146
  go_wp2
  go_loop [8] (fun i => ∃ k : Nat, k ≤ s.size ∧ i = .int .i64 k ∧ Hid ((s.data.toList.take k).all (allP more.data.toList) = true)) (fun i => s.size - (intOf i).toNat)
  case atStart => exact ⟨0, Nat.zero_le _, rfl, rfl⟩
  case round =>
    obtain ⟨k, hk, rfl, hall⟩ := hrel
    by_cases hlt : k < s.size
    · have hts := Lib.hid (take_snoc s k hlt)
      have hdr := Lib.hid (drop_cons s k hlt)
      have hbt : s[k].toNat < 256 := s[k].toNat_lt
      have hd : VP.dig s[k] = true ∨ VP.dig s[k] = false := by cases VP.dig s[k] <;> simp
      rcases hd with hd | hd
      · have HP : Hid (allP more.data.toList s[k] = true) := allP_fst hd
        go_wp2_with (go_at_call 145; refine (digit_calls _ _).mono ?_; rintro e w' ⟨rfl, rfl⟩)
        go_round
        case rel => exact ⟨k + 1, by omega, by go_num, Lib.hid (by rw [hts.out, List.all_append, hall.out]; simp [HP.out])⟩
        case measure => simp [intOf]; omega
      · have hlt2 : VP.lett s[k] = true ∨ VP.lett s[k] = false := by cases VP.lett s[k] <;> simp
        rcases hlt2 with h2 | h2
        · have HP : Hid (allP more.data.toList s[k] = true) := by unfold allP; rw [hd, h2]; exact rfl
          go_wp2_with (first | (go_at_call 145; refine (digit_calls _ _).mono ?_; rintro e w' ⟨rfl, rfl⟩) | (go_at_call 213; refine (letter_calls _ _).mono ?_; rintro e w' ⟨rfl, rfl⟩))
          go_round
          case rel => exact ⟨k + 1, by omega, by go_num, Lib.hid (by rw [hts.out, List.all_append, hall.out]; simp [HP.out])⟩
          case measure => simp [intOf]; omega
        · have hm := idxB_mem more s[k]
          cases hc : more.data.toList.contains s[k] with
          | true =>
            have HP : Hid (allP more.data.toList s[k] = true) := by unfold allP; rw [hc]; simp; exact trivial
            rw [hc] at hm
            have hi : 0 ≤ idxB more s[k] := of_decide_eq_true hm
            clear hm hc
            go_wp2_with (first | (go_at_call 145; refine (digit_calls _ _).mono ?_; rintro e w' ⟨rfl, rfl⟩) | (go_at_call 213; refine (letter_calls _ _).mono ?_; rintro e w' ⟨rfl, rfl⟩) | (go_at_call 140; refine (call_idxB _ _ _).mono ?_; rintro e w' ⟨rfl, rfl⟩))
            go_round
            case rel => exact ⟨k + 1, by omega, by go_num, Lib.hid (by rw [hts.out, List.all_append, hall.out]; simp [HP.out])⟩
            case measure => simp [intOf]; omega
          | false =>
            have HP : Hid (allP more.data.toList s[k] = false) := by unfold allP; rw [hc, hd, h2]; exact rfl
            rw [hc] at hm
            have hi : ¬ 0 ≤ idxB more s[k] := of_decide_eq_false hm
            clear hm hc
            go_wp2_with (first | (go_at_call 145; refine (digit_calls _ _).mono ?_; rintro e w' ⟨rfl, rfl⟩) | (go_at_call 213; refine (letter_calls _ _).mono ?_; rintro e w' ⟨rfl, rfl⟩) | (go_at_call 140; refine (call_idxB _ _ _).mono ?_; rintro e w' ⟨rfl, rfl⟩))
            go_ret
            refine ⟨ret_bool ?_, rfl⟩
            rw [← List.take_append_drop k s.data.toList, hdr.out, List.all_append, List.all_cons, HP.out]
            simp
    · go_wp2
      go_ret
      have hl := HL.out
      have ht : s.data.toList.take k = s.data.toList := List.take_of_length_le (by omega)
      have ha := hall.out
      rw [ht] at ha
      exact ⟨ret_bool (by rw [ha]), rfl⟩
end Go.Proofs.YtpbbhjifgaeklaaGreatDoor

namespace Go.Proofs.YtpbbhjifgaeklaaGreatDoor
open Go.RowKit

set_option maxRecDepth 100000 in
theorem refPrint_calls (e : Int) (u r : ByteArray) (w : World) (hE : Env w) (h0 : -9223372036854775808 ≤ e) (h1 : e ≤ 9223372036854775807) (hu : u.size ≤ 1000000) (hr : r.size ≤ 1000000) :
    Calls Tryz.prog 73 #[.agg #[.int .i64 e, .string u, .string r]] w (PrintIs e u r w) := by
  have hb0 := below_alloc w (.cells #[.int .i64 e, .string u, .string r] 23)
  have hE1 := hE.below hb0
  clear hE
  have hr' : r.size = 0 ∨ 0 < r.size := by omega
  by_cases he : e = 0
  · subst he
    rcases hr' with hr' | hr'
    · have hz := isEmpty_true r hr'
      have er := eq_empty r hr'
      subst er
      clear hr' hr
      go_enter Tryz.func73, Tryz.ntmps73
      go_wp2
      go_ret
      exact ⟨_, rfl, by simp [VP.printP], hb0⟩
    · have hz := isEmpty_false r hr'
      have Hr := Lib.hid (printP_rev r hr')
      go_enter Tryz.func73, Tryz.ntmps73
      go_wp2
      go_ret
      exact ⟨_, rfl, by simp [VP.printP, Hr.out], hb0⟩
  · have hb : (e != 0) = true := by rw [bne_iff_ne]; exact he
    have HE := Lib.hid he
    clear he
    rcases hr' with hr' | hr'
    · have hz := isEmpty_true r hr'
      have er := eq_empty r hr'
      subst er
      clear hr' hr
      go_enter Tryz.func73, Tryz.ntmps73
      go_wp2_with fail
      refine (call_itoa _ _ hE1 h0 h1).mono ?_
      rintro E w1 ⟨t, rfl, ht, hts, hb1⟩
      have hB := step_below hb0 hb1
      obtain ⟨c0, c1, c2⟩ := box3 hb1
      clear hb1
      have Ht := Lib.hid ht
      clear ht
      go_wp2
      go_ret
      exact ⟨_, rfl, by simp [VP.printP, Ht.out, HE.out], hB⟩
    · have hz := isEmpty_false r hr'
      have Hr := Lib.hid (printP_rev r hr')
      go_enter Tryz.func73, Tryz.ntmps73
      go_wp2_with fail
      refine (call_itoa _ _ hE1 h0 h1).mono ?_
      rintro E w1 ⟨t, rfl, ht, hts, hb1⟩
      have hB := step_below hb0 hb1
      obtain ⟨c0, c1, c2⟩ := box3 hb1
      clear hb1
      have Ht := Lib.hid ht
      clear ht
      go_wp2
      go_ret
      exact ⟨_, rfl, by simp [VP.printP, Ht.out, HE.out, Hr.out], hB⟩
end Go.Proofs.YtpbbhjifgaeklaaGreatDoor
