/- The reference's Number: a text of digits, without a nought ahead, of at most so many. · The reference's Right says what the program's does: the plain part. -/
import Derived.Test.YtpbbhjifgaeklaaGreatDoorSTK6
namespace Go.Proofs.YtpbbhjifgaeklaaGreatDoor
open Go.RowKit

def NumberIs (most : Nat) (s : ByteArray) (w : World) (e : Ending) (w' : World) : Prop :=
  e = .returned (.tuple #[.int .i64 (((VP.number most s.data.toList).getD 0 : Nat) : Int), .bool (VP.number most s.data.toList).isSome]) ∧ w = w'

theorem refNumber_none (most : Nat) (s : ByteArray) (w : World) (h : VP.number most s.data.toList = none) : NumberIs most s w (.returned (.tuple #[.int .i64 0, .bool false])) w := by
  refine ⟨?_, rfl⟩
  rw [h]; rfl

set_option maxRecDepth 100000 in
theorem refNumber_loop (most : Nat) (hm : most ≤ 9) (s : ByteArray) (w : World) (h0 : 0 < s.size) (h9 : s.size ≤ most) (hz : ¬ (1 < s.size ∧ s[0] = 48)) :
    Calls Tryz.prog 79 #[.string s, .int .i64 (most : Int)] w (NumberIs most s w) := by
  have hl := size_eq_length s
  have hnn : ¬ (s.data.toList = [] ∨ most < s.data.toList.length ∨ (1 < s.data.toList.length ∧ s.data.toList.head? = some 48)) := by
    rintro (e | e | ⟨e1, e2⟩)
    · rw [e, List.length_nil] at hl; omega
    · omega
    · refine hz ⟨by omega, ?_⟩
      rw [list_cons s h0] at e2
      simpa using e2
  have hn : VP.number most s.data.toList = if s.data.toList.all VP.dig then some (VP.val s.data.toList) else none := by
    unfold VP.number; rw [if_neg hnn]
  have HN := Lib.hid hn
  have HL := Lib.hid hl
  have he0 : ((s.size : Int) == 0) = false := by rw [beq_eq_false_iff_ne]; omega
  clear hn hnn hl
  have hb : 1 < s.size → (((s[0].toNat : Nat) : Int) == 48) = false := fun h => by
    rw [beq_eq_false_iff_ne]
    intro e
    refine hz ⟨h, ?_⟩
    exact UInt8.toNat_inj.1 (by have e48 : (48 : UInt8).toNat = 48 := rfl; omega)
  clear hz
  have hq : (1 < s.size ∧ (((s[0].toNat : Nat) : Int) == 48) = false) ∨ s.size ≤ 1 := by
    rcases Nat.lt_or_ge 1 s.size with h | h
    · exact .inl ⟨h, hb h⟩
    · exact .inr h
  clear hb
  have hgt : decide (most < s.size) = false := decide_eq_false (by omega)
  have hgt' : decide ((most : Int) < (s.size : Int)) = false := decide_eq_false (by omega)
  rcases hq with ⟨h1, hb'⟩ | h1
  all_goals
    go_enter Tryz.func79, Tryz.ntmps79
    go_wp2
    go_loop [6, 29] (fun n i => ∃ k : Nat, k ≤ s.size ∧ i = .int .i64 k ∧ n = .int .i64 (VP.val (s.data.toList.take k) : Nat) ∧ Hid ((s.data.toList.take k).all VP.dig = true)) (fun _ i => s.size - (intOf i).toNat)
    case atStart => exact ⟨0, Nat.zero_le _, rfl, rfl, rfl⟩
    case round =>
      obtain ⟨k, hk, rfl, rfl, hall⟩ := hrel
      have hv := VP.val_lt _ hall.out
      have hlen : (s.data.toList.take k).length ≤ 9 := Nat.le_trans (List.length_take_le _ _) (by omega)
      have hpow : 10 ^ (s.data.toList.take k).length ≤ 10 ^ 9 := Nat.pow_le_pow_right (by omega) hlen
      have hv9 : VP.val (s.data.toList.take k) < 1000000000 := Nat.lt_of_lt_of_le hv hpow
      clear hv hlen hpow
      by_cases hlt : k < s.size
      · have hts := Lib.hid (take_snoc s k hlt)
        have hbt : s[k].toNat < 256 := s[k].toNat_lt
        have hdg : VP.dig s[k] = true ∨ VP.dig s[k] = false := by cases VP.dig s[k] <;> simp
        rcases hdg with hdg | hdg
        · have hdd : 48 ≤ s[k].toNat ∧ s[k].toNat ≤ 57 := by unfold VP.dig at hdg; simpa using hdg
          obtain ⟨hd1, hd2⟩ := hdd
          have hdg' := Lib.hid hdg
          go_wp2_with (go_at_call 145; refine (digit_calls _ _).mono ?_; rintro e w' ⟨rfl, rfl⟩)
          go_round
          case rel =>
            have r3 : Value.int .i64 ((VP.val (s.data.toList.take k) : Nat) * 10 + ((s[k].toNat : Int) - 48)) = .int .i64 (VP.val (s.data.toList.take (k + 1)) : Nat) := by rw [hts.out, VP.val_snoc]; go_num
            have r4 : Hid ((s.data.toList.take (k + 1)).all VP.dig = true) := Lib.hid (by rw [hts.out, List.all_append, hall.out]; simp [hdg'.out])
            first
              | exact ⟨k + 1, by omega, by go_num, r3, r4⟩
              | (refine ⟨trivial, ?_⟩; (repeat apply Exists.intro); exact ⟨⟨k + 1, by omega, by go_num, r3, r4⟩, rfl⟩)
              | ((repeat apply Exists.intro); exact ⟨⟨k + 1, by omega, by go_num, r3, r4⟩, rfl⟩)
          case measure => simp [intOf]; omega
        · have hdg' := Lib.hid hdg
          have hdr := Lib.hid (drop_cons s k hlt)
          go_wp2_with (go_at_call 145; refine (digit_calls _ _).mono ?_; rintro e w' ⟨rfl, rfl⟩)
          go_ret2
          refine refNumber_none _ _ _ ?_
          rw [HN.out, if_neg]
          intro ha
          rw [← List.take_append_drop k s.data.toList, hdr.out] at ha
          rw [List.all_append, List.all_cons, hdg'.out] at ha
          simp at ha
      · go_wp2
        go_ret2
        have hl := HL.out
        have ht : s.data.toList.take k = s.data.toList := List.take_of_length_le (by omega)
        have ha := hall.out
        rw [ht] at ha
        refine ⟨?_, rfl⟩
        rw [HN.out, ht, if_pos ha]
        rfl

set_option maxRecDepth 100000 in
theorem refNumber_calls (most : Nat) (hm : most ≤ 9) (s : ByteArray) (w : World) (hs : s.size ≤ 1000000) : Calls Tryz.prog 79 #[.string s, .int .i64 (most : Int)] w (NumberIs most s w) := by
  have hl := size_eq_length s
  by_cases h0 : s.size = 0
  · have hn : VP.number most s.data.toList = none := by
      unfold VP.number; rw [if_pos]; left
      exact List.eq_nil_of_length_eq_zero (by omega)
    have HN := Lib.hid hn
    have he0 : ((s.size : Int) == 0) = true := by rw [beq_iff_eq]; omega
    clear hl hn h0
    go_enter Tryz.func79, Tryz.ntmps79
    go_wp2
    go_ret2
    exact refNumber_none _ _ _ HN.out
  · have h0' : 0 < s.size := by omega
    have he0 : ((s.size : Int) == 0) = false := by rw [beq_eq_false_iff_ne]; omega
    by_cases h9 : most < s.size
    · have hn : VP.number most s.data.toList = none := by unfold VP.number; rw [if_pos]; right; left; omega
      have HN := Lib.hid hn
      clear hl hn h0
      go_enter Tryz.func79, Tryz.ntmps79
      go_wp2
      go_ret2
      exact refNumber_none _ _ _ HN.out
    · have h9' : s.size ≤ most := by omega
      by_cases hz : 1 < s.size ∧ s[0] = 48
      · obtain ⟨h1, hz⟩ := hz
        have hn : VP.number most s.data.toList = none := by
          unfold VP.number; rw [if_pos]; right; right
          refine ⟨by omega, ?_⟩
          rw [list_cons s h0', hz]; rfl
        have hb : (((s[0].toNat : Nat) : Int) == 48) = true := by rw [hz]; rfl
        have HN := Lib.hid hn
        clear hl hn hz h0 h9
        go_enter Tryz.func79, Tryz.ntmps79
        go_wp2
        go_ret2
        exact refNumber_none _ _ _ HN.out
      · exact refNumber_loop most hm s w h0' h9' hz
end Go.Proofs.YtpbbhjifgaeklaaGreatDoor

namespace Go.Proofs.YtpbbhjifgaeklaaGreatDoor
open Go.RowKit

/-- which letters besides the reference lets by -/
def moreP (e : Int) (r : List UInt8) : List UInt8 := ([46, 43, 126] ++ (if 0 < e then [58] else [])) ++ (if r = [] then [] else [45])

theorem fin_all {p q : UInt8 → Bool} (h : ∀ i : Fin 256, p (UInt8.ofNat i.val) = q (UInt8.ofNat i.val)) : p = q := by
  funext c
  have := h ⟨c.toNat, c.toNat_lt⟩
  simpa using this
theorem allP_base : allP [46, 43, 126] = VP.ok0 := fin_all (by decide +kernel)
theorem allP_11 : allP (([46, 43, 126] ++ [58]) ++ [45]) = fun c => VP.ok0 c || c == 45 || (true && c == 58) := fin_all (by decide +kernel)
theorem allP_01 : allP (([46, 43, 126] ++ []) ++ [45]) = fun c => VP.ok0 c || c == 45 || (false && c == 58) := fin_all (by decide +kernel)
theorem allP_10 : allP (([46, 43, 126] ++ [58]) ++ []) = fun c => (VP.ok0 c || c == 45 || (true && c == 58)) && !(c == 45) := fin_all (by decide +kernel)
theorem allP_00 : allP (([46, 43, 126] ++ []) ++ []) = fun c => (VP.ok0 c || c == 45 || (false && c == 58)) && !(c == 45) := fin_all (by decide +kernel)

theorem all_and_not (p : UInt8 → Bool) (l : List UInt8) : (l.all fun c => p c && !(c == 45)) = (l.all p && !l.contains 45) := by
  induction l with
  | nil => rfl
  | cons c l ih =>
    rw [List.all_cons, List.all_cons, List.contains_cons, ih]
    have : ((45 : UInt8) == c) = (c == 45) := by rw [Bool.eq_iff_iff, beq_iff_eq, beq_iff_eq]; exact eq_comm
    rw [this]
    cases p c <;> cases (c == 45) <;> cases l.all p <;> cases l.contains 45 <;> rfl

theorem moreP_all (e : Int) (u r : List UInt8) : u.all (allP (moreP e r)) = (u.all (VP.ok1 e) && (r != [] || !u.contains 45)) := by
  unfold moreP
  by_cases he : 0 < e
  · have h1 : VP.ok1 e = fun c => VP.ok0 c || c == 45 || (true && c == 58) := by funext c; unfold VP.ok1; rw [decide_eq_true he]
    rw [if_pos he, h1]
    by_cases hr : r = []
    · rw [if_pos hr, allP_10, all_and_not, hr]; rfl
    · rw [if_neg hr, allP_11]
      have : (r != []) = true := by simpa using hr
      rw [this, Bool.true_or, Bool.and_true]
  · have h1 : VP.ok1 e = fun c => VP.ok0 c || c == 45 || (false && c == 58) := by funext c; unfold VP.ok1; rw [decide_eq_false he]
    rw [if_neg he, h1]
    by_cases hr : r = []
    · rw [if_pos hr, allP_00, all_and_not, hr]; rfl
    · rw [if_neg hr, allP_01]
      have : (r != []) = true := by simpa using hr
      rw [this, Bool.true_or, Bool.and_true]

/-- THE REFERENCE's RIGHT, test by test. -/
theorem right_ref (e : Int) (u r : List UInt8) : VP.rightP e u r = (inB e 0 999999999 && VP.startsDig u && u.all (allP (moreP e r)) && r.all (allP [46, 43, 126]) && decide ((VP.printP e u r).length ≤ 40)) := by
  rw [moreP_all, allP_base]
  unfold VP.rightP inB
  have : decide (e < 1000000000) = decide (e ≤ 999999999) := decide_eq_decide.2 (by omega)
  rw [this]
  cases decide (0 ≤ e) <;> cases decide (e ≤ 999999999) <;> cases VP.startsDig u <;> cases u.all (VP.ok1 e) <;> cases r.all VP.ok0 <;> cases (r != [] || !u.contains 45) <;> cases decide ((VP.printP e u r).length ≤ 40) <;> rfl
end Go.Proofs.YtpbbhjifgaeklaaGreatDoor
