/- stanza.line, the reference's isLine, Trim, blank: what a line may be. -/
import Derived.Test.YtodbbfgkclkpgaaGreatDoorAW27
import Derived.Test.YtodbbfgkclkpgaaGreatDoorAW28
import Derived.Test.YtodbbfgkclkpgaaGreatDoorAW24
namespace Go.Proofs.YtodbbfgkclkpgaaGreatDoor.VP

def rtrim (p : UInt8 → Bool) (l : List UInt8) : List UInt8 := (l.reverse.dropWhile p).reverse
theorem rtrim_snoc {p : UInt8 → Bool} (l : List UInt8) (c : UInt8) : rtrim p (l ++ [c]) = if p c then rtrim p l else l ++ [c] := by
  unfold rtrim
  rw [List.reverse_append, List.reverse_singleton, List.singleton_append, List.dropWhile_cons]
  split
  · rfl
  · rw [List.reverse_cons, List.reverse_reverse]
theorem rtrim_nil {p : UInt8 → Bool} : rtrim p [] = [] := rfl
theorem rtrim_cons {p : UInt8 → Bool} (c : UInt8) (l : List UInt8) : rtrim p (c :: l) = if p c ∧ rtrim p l = [] then [] else c :: rtrim p l := by
  induction l using rev_ind with
  | nil =>
    rw [show [c] = [] ++ [c] from rfl, rtrim_snoc, rtrim_nil]
    by_cases h : p c = true <;> simp [h]
  | append_singleton l d ih =>
    rw [show c :: (l ++ [d]) = (c :: l) ++ [d] from rfl, rtrim_snoc, rtrim_snoc]
    by_cases hd : p d = true
    · rw [if_pos hd, if_pos hd, ih]
    · rw [if_neg hd, if_neg hd, if_neg (by simp)]
      rfl
theorem rtrim_comm {p : UInt8 → Bool} (l : List UInt8) : rtrim p (l.dropWhile p) = cutBoth p l := by
  show rtrim p (l.dropWhile p) = (rtrim p l).dropWhile p
  induction l with
  | nil => rfl
  | cons c l ih =>
    rw [List.dropWhile_cons, rtrim_cons]
    by_cases hc : p c = true
    · rw [if_pos hc, ih]
      by_cases hr : rtrim p l = []
      · rw [if_pos ⟨hc, hr⟩, hr]
      · rw [if_neg (fun h => hr h.2), List.dropWhile_cons, if_pos hc]
    · rw [if_neg hc, if_neg (fun h => hc h.1), List.dropWhile_cons, if_neg hc, rtrim_cons, if_neg (fun h => hc h.1)]
end Go.Proofs.YtodbbfgkclkpgaaGreatDoor.VP
namespace Go.Proofs.YtodbbfgkclkpgaaGreatDoor
open Go.RowKit

theorem blank_calls (c : UInt8) (w : World) : Calls Tryz.prog 166 #[.int .u8 (c.toNat : Int)] w fun e w' => e = .returned (.bool (VP.bl c)) ∧ w = w' := by
  have hb : c.toNat < 256 := c.toNat_lt
  have hf : VP.bl c = (decide (c.toNat = 32) || decide (c.toNat = 9)) := by
    unfold VP.bl
    rw [show (c == 32) = decide (c.toNat = 32) from u8_beq c 32 (by omega), show (c == 9) = decide (c.toNat = 9) from u8_beq c 9 (by omega)]
  by_cases h1 : c.toNat = 32
  · have HF := Lib.hid (show VP.bl c = true by rw [hf, decide_eq_true h1]; rfl)
    have e1 := beqI 32 rfl h1
    clear h1 hf
    go_enter Tryz.func166, Tryz.ntmps166
    go_wp2_with fail
    go_ret
    exact ⟨ret_bool HF.out.symm, rfl⟩
  · by_cases h2 : c.toNat = 9
    · have HF := Lib.hid (show VP.bl c = true by rw [hf, decide_eq_true h2]; simp)
      have e1 := beqI_ne 32 rfl h1
      have e2 := beqI 9 rfl h2
      clear h1 h2 hf
      go_enter Tryz.func166, Tryz.ntmps166
      go_wp2_with fail
      go_ret
      exact ⟨ret_bool HF.out.symm, rfl⟩
    · have HF := Lib.hid (show VP.bl c = false by rw [hf, decide_eq_false h1, decide_eq_false h2]; rfl)
      have e1 := beqI_ne 32 rfl h1
      have e2 := beqI_ne 9 rfl h2
      clear h1 h2 hf
      go_enter Tryz.func166, Tryz.ntmps166
      go_wp2_with fail
      go_ret
      exact ⟨ret_bool HF.out.symm, rfl⟩

def RefTrimIs (s : ByteArray) (w : World) (E : Ending) (w' : World) : Prop := (∃ t : ByteArray, E = .returned (.string t) ∧ t.data.toList = VP.cutBoth VP.bl s.data.toList) ∧ w = w'

set_option maxHeartbeats 1000000 in
set_option maxRecDepth 100000 in
theorem refTrim_calls (s : ByteArray) (w : World) (hs : s.size ≤ 1000000) : Calls Tryz.prog 165 #[.string s] w (RefTrimIs s w) := by
  go_enter Tryz.func165, Tryz.ntmps165
  go_wp2_with fail
  go_loop [0] (fun v => ∃ t : ByteArray, v = .string t ∧ t.size ≤ s.size ∧ Hid (t.data.toList.dropWhile VP.bl = s.data.toList.dropWhile VP.bl)) (fun v => strSize v)
  case atStart => exact ⟨s, rfl, Nat.le_refl _, rfl⟩
  case round =>
    obtain ⟨t, rfl, htz, htd⟩ := hrel
    have hcase : (∃ _ : 0 < t.size, t.toList.isEmpty = false ∧ VP.bl t[0] = true) ∨ ((∃ _ : 0 < t.size, t.toList.isEmpty = false ∧ VP.bl t[0] = false) ∨ (t.size = 0 ∧ t.toList.isEmpty = true)) := by
      by_cases hp : 0 < t.size
      · cases hg : VP.bl t[0] with
        | true => exact .inl ⟨hp, isEmpty_false t hp, hg⟩
        | false => exact .inr (.inl ⟨hp, isEmpty_false t hp, hg⟩)
      · exact .inr (.inr ⟨by omega, isEmpty_true t (by omega)⟩)
    rcases hcase with ⟨hp, hne, hg⟩ | hcase
    · have HG := Lib.hid hg
      go_wp2_with (go_at_call 166; refine (blank_calls _ _).mono ?_; rintro e w' ⟨rfl, rfl⟩)
      go_round
      case rel => exact ⟨_, rfl, by simp; omega, Lib.hid (by rw [← htd.out, drop_first hp, List.dropWhile_cons, if_pos HG.out])⟩
      case measure => simp [strSize]; omega
    · have HT : Hid (VP.rtrim VP.bl t.data.toList = VP.cutBoth VP.bl s.data.toList) := by
        have h : t.data.toList.dropWhile VP.bl = t.data.toList := by
          rcases hcase with ⟨hp, _, hg⟩ | ⟨hp, _⟩
          · rw [drop_first hp, List.dropWhile_cons, if_neg (by rw [hg]; simp)]
          · rw [size_eq_length] at hp
            rw [List.eq_nil_of_length_eq_zero hp]; rfl
        show VP.rtrim VP.bl t.data.toList = VP.cutBoth VP.bl s.data.toList
        rw [← VP.rtrim_comm, ← htd.out, h]
      clear htd
      rcases hcase with ⟨hp, hne, hg⟩ | ⟨hp, hne⟩
      all_goals
        go_wp2_with (go_at_call 166; refine (blank_calls _ _).mono ?_; rintro e w' ⟨rfl, rfl⟩)
        go_loop [0] (fun v => ∃ t : ByteArray, v = .string t ∧ t.size ≤ s.size ∧ Hid (VP.rtrim VP.bl t.data.toList = VP.cutBoth VP.bl s.data.toList)) (fun v => strSize v)
        case atStart => exact ⟨t, rfl, htz, HT⟩
        case round =>
          obtain ⟨v, rfl, hvz, hvt⟩ := hrel
          by_cases hv : 0 < v.size
          · have hne := isEmpty_false v hv
            obtain ⟨m, hm⟩ : ∃ m, v.size = m + 1 := ⟨v.size - 1, by omega⟩
            have hml : m < v.size := by omega
            have HD := Lib.hid (drop_last hm)
            cases hg : VP.bl (v[m]'hml) with
            | true =>
              have HG := Lib.hid hg
              go_wp2_with (go_at_call 166; refine (blank_calls _ _).mono ?_; rintro e w' ⟨rfl, rfl⟩)
              go_round
              case rel => exact ⟨_, rfl, by simp; omega, Lib.hid (by rw [← hvt.out, HD.out, VP.rtrim_snoc, if_pos HG.out])⟩
              case measure => simp [strSize]; omega
            | false =>
              have HG := Lib.hid hg
              go_wp2_with (go_at_call 166; refine (blank_calls _ _).mono ?_; rintro e w' ⟨rfl, rfl⟩)
              go_ret
              exact ⟨⟨_, rfl, by rw [← hvt.out, HD.out, VP.rtrim_snoc, if_neg (by rw [HG.out]; simp)]⟩, rfl⟩
          · have hne := isEmpty_true v (by omega)
            have HV := Lib.hid (show v.data.toList = [] from List.eq_nil_of_length_eq_zero (by rw [← size_eq_length]; omega))
            go_wp2_with fail
            go_ret
            exact ⟨⟨_, rfl, by rw [← hvt.out, HV.out]; rfl⟩, rfl⟩

/-! the program's Trim, cut of blanks and tabs -/
theorem bl_contains_fin : ∀ i : Fin 256, ([32, 9] : List UInt8).contains (UInt8.ofNat i.val) = VP.bl (UInt8.ofNat i.val) := by decide +kernel
theorem bl_contains (c : UInt8) : ([32, 9] : List UInt8).contains c = VP.bl c := by
  have := bl_contains_fin ⟨c.toNat, c.toNat_lt⟩
  simpa using this
theorem bl_fun : (fun c => ([32, 9] : List UInt8).contains c) = VP.bl := funext bl_contains
theorem bls_ascii : ∀ (j : Nat) (b : UInt8), (⟨#[32, 9]⟩ : ByteArray).data.toList[j]? = some b → b.toNat < 128 := fun j b h => by
  have hm : b ∈ ([32, 9] : List UInt8) := List.mem_of_getElem? h
  have hall : (([32, 9] : List UInt8).all fun b => decide (b.toNat < 128)) = true := by decide
  simpa using List.all_eq_true.1 hall b hm
theorem call_trim2 (s : ByteArray) (w : World) (hs : s.size ≤ 1000000) : Calls Tryz.prog 137 #[.string s, .string ⟨#[32, 9]⟩] w fun e w' => ∃ t : ByteArray, e = .returned (.string t) ∧ t.data.toList = VP.cutBoth VP.bl s.data.toList ∧ Below w.heap.size w w' :=
  (Any.strings_Trim_laid Tryz.lays160 info_set s ⟨#[32, 9]⟩ w (by omega) (by decide) bls_ascii).mono fun e w' ⟨he, hb⟩ => by
    refine ⟨_, he, ?_, hb⟩
    show Lib.trimS s.data.toList [32, 9] = VP.cutBoth VP.bl s.data.toList
    unfold Lib.trimS Lib.trimLeftS Lib.trimRightS VP.cutBoth
    rw [bl_fun]

theorem okL_at (c : UInt8) : VP.okL c = ((decide (32 ≤ c.toNat) || decide (c.toNat = 9)) && !decide (c.toNat = 127)) := by
  unfold VP.okL
  rw [show (c == 9) = decide (c.toNat = 9) from u8_beq c 9 (by omega), show (c == 127) = decide (c.toNat = 127) from u8_beq c 127 (by omega)]
theorem line_bad {s : ByteArray} {k : Nat} (hlt : k < s.size) (h : VP.okL s[k] = false) : VP.flineP s.data.toList = false := by
  have : s.data.toList.all VP.okL = false := by
    rw [← List.take_append_drop k s.data.toList, drop_cons s k hlt, List.all_append, List.all_cons, h]
    simp
  unfold VP.flineP
  rw [this]
  rfl
theorem line_cut {s t : ByteArray} (h : s.data.toList.all VP.okL = true) (ht : t.data.toList = VP.cutBoth VP.bl s.data.toList) : VP.flineP s.data.toList = decide (t = s) := by
  unfold VP.flineP
  rw [h, ← ht, Bool.true_and]
  congr 1
  exact propext ⟨fun e => data_inj e, fun e => by rw [e]⟩
theorem byte_line (c : UInt8) : (VP.okL c = true ∧ 32 ≤ c.toNat ∧ c.toNat ≠ 127 ∧ c.toNat ≠ 9) ∨ (VP.okL c = true ∧ c.toNat < 32 ∧ c.toNat = 9) ∨ (VP.okL c = false ∧ c.toNat < 32 ∧ c.toNat ≠ 9) ∨ (VP.okL c = false ∧ 32 ≤ c.toNat ∧ c.toNat = 127) := by
  rw [okL_at]
  by_cases h1 : 32 ≤ c.toNat
  · by_cases h2 : c.toNat = 127
    · exact .inr (.inr (.inr ⟨by rw [decide_eq_true h2]; simp, h1, h2⟩))
    · exact .inl ⟨by rw [decide_eq_true h1, decide_eq_false h2]; rfl, h1, h2, by omega⟩
  · by_cases h2 : c.toNat = 9
    · exact .inr (.inl ⟨by rw [decide_eq_true h2, decide_eq_false (by omega : ¬ c.toNat = 127)]; simp, by omega, h2⟩)
    · exact .inr (.inr (.inl ⟨by rw [decide_eq_false h1, decide_eq_false h2]; rfl, by omega, h2⟩))

set_option maxHeartbeats 2000000 in
set_option maxRecDepth 100000 in
theorem line_calls (s : ByteArray) (w : World) (hs : s.size ≤ 1000000) : Calls Tryz.prog 133 #[.string s] w (BoolIs (VP.flineP s.data.toList) w) := by
  have HL := Lib.hid (size_eq_length s)
  go_enter Tryz.func133, Tryz.ntmps133
  go_wp2_with fail
  go_loop [6] (fun i => ∃ k : Nat, k ≤ s.size ∧ i = .int .i64 k ∧ Hid ((s.data.toList.take k).all VP.okL = true)) (fun i => s.size - (intOf i).toNat)
  case atStart => exact ⟨0, Nat.zero_le _, rfl, rfl⟩
  case round =>
    obtain ⟨k, hk, rfl, hall⟩ := hrel
    by_cases hlt : k < s.size
    · have hbt : s[k].toNat < 256 := s[k].toNat_lt
      have hts := Lib.hid (take_snoc s k hlt)
      rcases byte_line s[k] with ⟨hok, h1, h2, h3⟩ | ⟨hok, h1, h2⟩ | ⟨hok, h1, h2⟩ | ⟨hok, h1, h2⟩
      · have HK := Lib.hid (show (s.data.toList.take (k + 1)).all VP.okL = true by rw [hts.out, List.all_append, hall.out]; simp [hok])
        have e1 := beqI_ne 127 rfl h2
        clear hok hts hall h2 h3
        go_wp2_with fail
        go_round
        case rel => exact ⟨k + 1, by omega, by go_num, HK⟩
        case measure => simp [intOf]; omega
      · have HK := Lib.hid (show (s.data.toList.take (k + 1)).all VP.okL = true by rw [hts.out, List.all_append, hall.out]; simp [hok])
        have e1 := bneI 9 rfl h2
        have e2 := beqI_ne (k := 127) 127 rfl (by omega : s[k].toNat ≠ 127)
        clear hok hts hall h2
        go_wp2_with fail
        go_round
        case rel => exact ⟨k + 1, by omega, by go_num, HK⟩
        case measure => simp [intOf]; omega
      · have HF := Lib.hid (line_bad hlt hok)
        have e1 := bneI_ne 9 rfl h2
        clear hok hts hall h2 HL
        go_wp2_with fail
        go_ret
        exact ⟨ret_bool HF.out.symm, Below.refl _ _⟩
      · have HF := Lib.hid (line_bad hlt hok)
        have e1 := beqI 127 rfl h2
        clear hok hts hall h2 HL
        go_wp2_with fail
        go_ret
        exact ⟨ret_bool HF.out.symm, Below.refl _ _⟩
    · have ha : s.data.toList.all VP.okL = true := by
        have hl := HL.out
        have := hall.out
        rwa [List.take_of_length_le (by omega)] at this
      have HA := Lib.hid ha
      clear ha hall HL
      go_wp2_with fail
      refine (call_trim2 s _ hs).mono ?_
      rintro E w1 ⟨t, rfl, ht, hb⟩
      have HF := Lib.hid (line_cut HA.out ht)
      clear HA ht
      by_cases he : t = s
      · have hb' : (t.toList == s.toList) = true := by rw [he]; simp
        have HB := Lib.hid (show VP.flineP s.data.toList = true by rw [HF.out, decide_eq_true he])
        clear HF he
        go_wp2_with fail
        go_ret
        exact ⟨ret_bool HB.out.symm, hb⟩
      · have hb' : (t.toList == s.toList) = false := beq_eq_false_iff_ne.2 (fun e => he (data_inj (by rwa [Lib.toList_data, Lib.toList_data] at e)))
        have HB := Lib.hid (show VP.flineP s.data.toList = false by rw [HF.out, decide_eq_false he])
        clear HF he
        go_wp2_with fail
        go_ret
        exact ⟨ret_bool HB.out.symm, hb⟩

set_option maxHeartbeats 2000000 in
set_option maxRecDepth 100000 in
theorem isLine_calls (s : ByteArray) (w : World) (hs : s.size ≤ 1000000) : Calls Tryz.prog 126 #[.string s] w (BoolIs (VP.flineP s.data.toList) w) := by
  have HL := Lib.hid (size_eq_length s)
  go_enter Tryz.func126, Tryz.ntmps126
  go_wp2_with fail
  go_loop [6] (fun i => ∃ k : Nat, k ≤ s.size ∧ i = .int .i64 k ∧ Hid ((s.data.toList.take k).all VP.okL = true)) (fun i => s.size - (intOf i).toNat)
  case atStart => exact ⟨0, Nat.zero_le _, rfl, rfl⟩
  case round =>
    obtain ⟨k, hk, rfl, hall⟩ := hrel
    by_cases hlt : k < s.size
    · have hbt : s[k].toNat < 256 := s[k].toNat_lt
      have hts := Lib.hid (take_snoc s k hlt)
      rcases byte_line s[k] with ⟨hok, h1, h2, h3⟩ | ⟨hok, h1, h2⟩ | ⟨hok, h1, h2⟩ | ⟨hok, h1, h2⟩
      · have HK := Lib.hid (show (s.data.toList.take (k + 1)).all VP.okL = true by rw [hts.out, List.all_append, hall.out]; simp [hok])
        have e1 := beqI_ne 127 rfl h2
        clear hok hts hall h2 h3
        go_wp2_with fail
        go_round
        case rel => exact ⟨k + 1, by omega, by go_num, HK⟩
        case measure => simp [intOf]; omega
      · have HK := Lib.hid (show (s.data.toList.take (k + 1)).all VP.okL = true by rw [hts.out, List.all_append, hall.out]; simp [hok])
        have e1 := bneI 9 rfl h2
        have e2 := beqI_ne (k := 127) 127 rfl (by omega : s[k].toNat ≠ 127)
        clear hok hts hall h2
        go_wp2_with fail
        go_round
        case rel => exact ⟨k + 1, by omega, by go_num, HK⟩
        case measure => simp [intOf]; omega
      · have HF := Lib.hid (line_bad hlt hok)
        have e1 := bneI_ne 9 rfl h2
        clear hok hts hall h2 HL
        go_wp2_with fail
        go_ret
        exact ⟨ret_bool HF.out.symm, Below.refl _ _⟩
      · have HF := Lib.hid (line_bad hlt hok)
        have e1 := beqI 127 rfl h2
        clear hok hts hall h2 HL
        go_wp2_with fail
        go_ret
        exact ⟨ret_bool HF.out.symm, Below.refl _ _⟩
    · have ha : s.data.toList.all VP.okL = true := by
        have hl := HL.out
        have := hall.out
        rwa [List.take_of_length_le (by omega)] at this
      have HA := Lib.hid ha
      clear ha hall HL
      go_wp2_with fail
      refine (refTrim_calls s _ hs).mono ?_
      rintro E w1 ⟨⟨t, rfl, ht⟩, rfl⟩
      have HF := Lib.hid (line_cut HA.out ht)
      clear HA ht
      by_cases he : t = s
      · have hb' : (t.toList == s.toList) = true := by rw [he]; simp
        have HB := Lib.hid (show VP.flineP s.data.toList = true by rw [HF.out, decide_eq_true he])
        clear HF he
        go_wp2_with fail
        go_ret
        exact ⟨ret_bool HB.out.symm, Below.refl _ _⟩
      · have hb' : (t.toList == s.toList) = false := beq_eq_false_iff_ne.2 (fun e => he (data_inj (by rwa [Lib.toList_data, Lib.toList_data] at e)))
        have HB := Lib.hid (show VP.flineP s.data.toList = false by rw [HF.out, decide_eq_false he])
        clear HF he
        go_wp2_with fail
        go_ret
        exact ⟨ret_bool HB.out.symm, Below.refl _ _⟩
end Go.Proofs.YtodbbfgkclkpgaaGreatDoor
