/- stanza.line, the reference's isLine, Trim, blank: what a line may be. · stanza.Small, the reference's Small: a name in small letters. · strings.Builder: written on, and read. · stanza.text: fields, written: the walk. -/
import Derived.Test.YtodbbfgkclkpgaaGreatDoorARC12
import Derived.Test.YtodbbfgkclkpgaaGreatDoorARC13
import Derived.Lib.ConvBytes
import Derived.Laws.IdiomStrings
import Derived.OwnWalk
import Derived.Test.YtodbbfgkclkpgaaGreatDoorARC3
import Derived.Shelf.Strings.BuilderF
import Derived.Test.YtodbbfgkclkpgaaGreatDoorARC8
import Derived.Test.YtodbbfgkclkpgaaGreatDoorARC4
import Derived.Deep.DeepCutAuto
namespace Go.Proofs.YtodbbfgkclkpgaaGreatDoor.VP

def rtrim (p : UInt8 → Bool) (l : List UInt8) : List UInt8 := (l.reverse.dropWhile p).reverse
theorem rtrim_snoc {p : UInt8 → Bool} (l : List UInt8) (c : UInt8) : rtrim p (l ++ [c]) = if p c then rtrim p l else l ++ [c] := by
  unfold rtrim
  rw [List.reverse_append, List.reverse_singleton, List.singleton_append, List.dropWhile_cons]
  split
  · rfl
  · rw [List.reverse_cons, List.reverse_reverse]
theorem rtrim_nil {p : UInt8 → Bool} : rtrim p [] = [] := rfl
theorem rtrim_cons {p : UInt8 → Bool} (c : UInt8) (l : List UInt8) : rtrim p (c :: l) = if p c ∧ rtrim p l = [] then [] else c :: rtrim p l := by
  induction l using rev_ind with
  | nil =>
    rw [show [c] = [] ++ [c] from rfl, rtrim_snoc, rtrim_nil]
    by_cases h : p c = true <;> simp [h]
  | append_singleton l d ih =>
    rw [show c :: (l ++ [d]) = (c :: l) ++ [d] from rfl, rtrim_snoc, rtrim_snoc]
    by_cases hd : p d = true
    · rw [if_pos hd, if_pos hd, ih]
    · rw [if_neg hd, if_neg hd, if_neg (by simp)]
      rfl
theorem rtrim_comm {p : UInt8 → Bool} (l : List UInt8) : rtrim p (l.dropWhile p) = cutBoth p l := by
  show rtrim p (l.dropWhile p) = (rtrim p l).dropWhile p
  induction l with
  | nil => rfl
  | cons c l ih =>
    rw [List.dropWhile_cons, rtrim_cons]
    by_cases hc : p c = true
    · rw [if_pos hc, ih]
      by_cases hr : rtrim p l = []
      · rw [if_pos ⟨hc, hr⟩, hr]
      · rw [if_neg (fun h => hr h.2), List.dropWhile_cons, if_pos hc]
    · rw [if_neg hc, if_neg (fun h => hc h.1), List.dropWhile_cons, if_neg hc, rtrim_cons, if_neg (fun h => hc h.1)]
end Go.Proofs.YtodbbfgkclkpgaaGreatDoor.VP
namespace Go.Proofs.YtodbbfgkclkpgaaGreatDoor
open Go.RowKit

theorem blank_calls (c : UInt8) (w : World) : Calls Tryz.prog 166 #[.int .u8 (c.toNat : Int)] w fun e w' => e = .returned (.bool (VP.bl c)) ∧ w = w' := by
  have hb : c.toNat < 256 := c.toNat_lt
  have hf : VP.bl c = (decide (c.toNat = 32) || decide (c.toNat = 9)) := by
    unfold VP.bl
    rw [show (c == 32) = decide (c.toNat = 32) from u8_beq c 32 (by omega), show (c == 9) = decide (c.toNat = 9) from u8_beq c 9 (by omega)]
  by_cases h1 : c.toNat = 32
  · have HF := Lib.hid (show VP.bl c = true by rw [hf, decide_eq_true h1]; rfl)
    have e1 := beqI 32 rfl h1
    clear h1 hf
    go_enter Tryz.func166, Tryz.ntmps166
    go_wp2_with fail
    go_ret
    exact ⟨ret_bool HF.out.symm, rfl⟩
  · by_cases h2 : c.toNat = 9
    · have HF := Lib.hid (show VP.bl c = true by rw [hf, decide_eq_true h2]; simp)
      have e1 := beqI_ne 32 rfl h1
      have e2 := beqI 9 rfl h2
      clear h1 h2 hf
      go_enter Tryz.func166, Tryz.ntmps166
      go_wp2_with fail
      go_ret
      exact ⟨ret_bool HF.out.symm, rfl⟩
    · have HF := Lib.hid (show VP.bl c = false by rw [hf, decide_eq_false h1, decide_eq_false h2]; rfl)
      have e1 := beqI_ne 32 rfl h1
      have e2 := beqI_ne 9 rfl h2
      clear h1 h2 hf
      go_enter Tryz.func166, Tryz.ntmps166
      go_wp2_with fail
      go_ret
      exact ⟨ret_bool HF.out.symm, rfl⟩

def RefTrimIs (s : ByteArray) (w : World) (E : Ending) (w' : World) : Prop := (∃ t : ByteArray, E = .returned (.string t) ∧ t.data.toList = VP.cutBoth VP.bl s.data.toList) ∧ w = w'

set_option maxHeartbeats 1000000 in
set_option maxRecDepth 100000 in
theorem refTrim_calls (s : ByteArray) (w : World) (hs : s.size ≤ 1000000) : Calls Tryz.prog 165 #[.string s] w (RefTrimIs s w) := by
  go_enter Tryz.func165, Tryz.ntmps165
  go_wp2_with fail
  go_loop [0] (fun v => ∃ t : ByteArray, v = .string t ∧ t.size ≤ s.size ∧ Hid (t.data.toList.dropWhile VP.bl = s.data.toList.dropWhile VP.bl)) (fun v => strSize v)
  case atStart => exact ⟨s, rfl, Nat.le_refl _, rfl⟩
  case round =>
    obtain ⟨t, rfl, htz, htd⟩ := hrel
    have hcase : (∃ _ : 0 < t.size, t.toList.isEmpty = false ∧ VP.bl t[0] = true) ∨ ((∃ _ : 0 < t.size, t.toList.isEmpty = false ∧ VP.bl t[0] = false) ∨ (t.size = 0 ∧ t.toList.isEmpty = true)) := by
      by_cases hp : 0 < t.size
      · cases hg : VP.bl t[0] with
        | true => exact .inl ⟨hp, isEmpty_false t hp, hg⟩
        | false => exact .inr (.inl ⟨hp, isEmpty_false t hp, hg⟩)
      · exact .inr (.inr ⟨by omega, isEmpty_true t (by omega)⟩)
    rcases hcase with ⟨hp, hne, hg⟩ | hcase
    · have HG := Lib.hid hg
      go_wp2_with (go_at_call 166; refine (blank_calls _ _).mono ?_; rintro e w' ⟨rfl, rfl⟩)
      go_round
      case rel => exact ⟨_, rfl, by simp; omega, Lib.hid (by rw [← htd.out, drop_first hp, List.dropWhile_cons, if_pos HG.out])⟩
      case measure => simp [strSize]; omega
    · have HT : Hid (VP.rtrim VP.bl t.data.toList = VP.cutBoth VP.bl s.data.toList) := by
        have h : t.data.toList.dropWhile VP.bl = t.data.toList := by
          rcases hcase with ⟨hp, _, hg⟩ | ⟨hp, _⟩
          · rw [drop_first hp, List.dropWhile_cons, if_neg (by rw [hg]; simp)]
          · rw [size_eq_length] at hp
            rw [List.eq_nil_of_length_eq_zero hp]; rfl
        show VP.rtrim VP.bl t.data.toList = VP.cutBoth VP.bl s.data.toList
        rw [← VP.rtrim_comm, ← htd.out, h]
      clear htd
      rcases hcase with ⟨hp, hne, hg⟩ | ⟨hp, hne⟩
      all_goals
        go_wp2_with (go_at_call 166; refine (blank_calls _ _).mono ?_; rintro e w' ⟨rfl, rfl⟩)
        go_loop [0] (fun v => ∃ t : ByteArray, v = .string t ∧ t.size ≤ s.size ∧ Hid (VP.rtrim VP.bl t.data.toList = VP.cutBoth VP.bl s.data.toList)) (fun v => strSize v)
        case atStart => exact ⟨t, rfl, htz, HT⟩
        case round =>
          obtain ⟨v, rfl, hvz, hvt⟩ := hrel
          by_cases hv : 0 < v.size
          · have hne := isEmpty_false v hv
            obtain ⟨m, hm⟩ : ∃ m, v.size = m + 1 := ⟨v.size - 1, by omega⟩
            have hml : m < v.size := by omega
            have HD := Lib.hid (drop_last hm)
            cases hg : VP.bl (v[m]'hml) with
            | true =>
              have HG := Lib.hid hg
              go_wp2_with (go_at_call 166; refine (blank_calls _ _).mono ?_; rintro e w' ⟨rfl, rfl⟩)
              go_round
              case rel => exact ⟨_, rfl, by simp; omega, Lib.hid (by rw [← hvt.out, HD.out, VP.rtrim_snoc, if_pos HG.out])⟩
              case measure => simp [strSize]; omega
            | false =>
              have HG := Lib.hid hg
              go_wp2_with (go_at_call 166; refine (blank_calls _ _).mono ?_; rintro e w' ⟨rfl, rfl⟩)
              go_ret
              exact ⟨⟨_, rfl, by rw [← hvt.out, HD.out, VP.rtrim_snoc, if_neg (by rw [HG.out]; simp)]⟩, rfl⟩
          · have hne := isEmpty_true v (by omega)
            have HV := Lib.hid (show v.data.toList = [] from List.eq_nil_of_length_eq_zero (by rw [← size_eq_length]; omega))
            go_wp2_with fail
            go_ret
            exact ⟨⟨_, rfl, by rw [← hvt.out, HV.out]; rfl⟩, rfl⟩

/-! the program's Trim, cut of blanks and tabs -/
theorem bl_contains_fin : ∀ i : Fin 256, ([32, 9] : List UInt8).contains (UInt8.ofNat i.val) = VP.bl (UInt8.ofNat i.val) := by decide +kernel
theorem bl_contains (c : UInt8) : ([32, 9] : List UInt8).contains c = VP.bl c := by
  have := bl_contains_fin ⟨c.toNat, c.toNat_lt⟩
  simpa using this
theorem bl_fun : (fun c => ([32, 9] : List UInt8).contains c) = VP.bl := funext bl_contains
theorem bls_ascii : ∀ (j : Nat) (b : UInt8), (⟨#[32, 9]⟩ : ByteArray).data.toList[j]? = some b → b.toNat < 128 := fun j b h => by
  have hm : b ∈ ([32, 9] : List UInt8) := List.mem_of_getElem? h
  have hall : (([32, 9] : List UInt8).all fun b => decide (b.toNat < 128)) = true := by decide
  simpa using List.all_eq_true.1 hall b hm
theorem call_trim2 (s : ByteArray) (w : World) (hs : s.size ≤ 1000000) : Calls Tryz.prog 137 #[.string s, .string ⟨#[32, 9]⟩] w fun e w' => ∃ t : ByteArray, e = .returned (.string t) ∧ t.data.toList = VP.cutBoth VP.bl s.data.toList ∧ Below w.heap.size w w' :=
  (Any.strings_Trim_laid Tryz.lays160 info_set s ⟨#[32, 9]⟩ w (by omega) (by decide) bls_ascii).mono fun e w' ⟨he, hb⟩ => by
    refine ⟨_, he, ?_, hb⟩
    show Lib.trimS s.data.toList [32, 9] = VP.cutBoth VP.bl s.data.toList
    unfold Lib.trimS Lib.trimLeftS Lib.trimRightS VP.cutBoth
    rw [bl_fun]

theorem okL_at (c : UInt8) : VP.okL c = ((decide (32 ≤ c.toNat) || decide (c.toNat = 9)) && !decide (c.toNat = 127)) := by
  unfold VP.okL
  rw [show (c == 9) = decide (c.toNat = 9) from u8_beq c 9 (by omega), show (c == 127) = decide (c.toNat = 127) from u8_beq c 127 (by omega)]
theorem line_bad {s : ByteArray} {k : Nat} (hlt : k < s.size) (h : VP.okL s[k] = false) : VP.flineP s.data.toList = false := by
  have : s.data.toList.all VP.okL = false := by
    rw [← List.take_append_drop k s.data.toList, drop_cons s k hlt, List.all_append, List.all_cons, h]
    simp
  unfold VP.flineP
  rw [this]
  rfl
theorem line_cut {s t : ByteArray} (h : s.data.toList.all VP.okL = true) (ht : t.data.toList = VP.cutBoth VP.bl s.data.toList) : VP.flineP s.data.toList = decide (t = s) := by
  unfold VP.flineP
  rw [h, ← ht, Bool.true_and]
  congr 1
  exact propext ⟨fun e => data_inj e, fun e => by rw [e]⟩
theorem byte_line (c : UInt8) : (VP.okL c = true ∧ 32 ≤ c.toNat ∧ c.toNat ≠ 127 ∧ c.toNat ≠ 9) ∨ (VP.okL c = true ∧ c.toNat < 32 ∧ c.toNat = 9) ∨ (VP.okL c = false ∧ c.toNat < 32 ∧ c.toNat ≠ 9) ∨ (VP.okL c = false ∧ 32 ≤ c.toNat ∧ c.toNat = 127) := by
  rw [okL_at]
  by_cases h1 : 32 ≤ c.toNat
  · by_cases h2 : c.toNat = 127
    · exact .inr (.inr (.inr ⟨by rw [decide_eq_true h2]; simp, h1, h2⟩))
    · exact .inl ⟨by rw [decide_eq_true h1, decide_eq_false h2]; rfl, h1, h2, by omega⟩
  · by_cases h2 : c.toNat = 9
    · exact .inr (.inl ⟨by rw [decide_eq_true h2, decide_eq_false (by omega : ¬ c.toNat = 127)]; simp, by omega, h2⟩)
    · exact .inr (.inr (.inl ⟨by rw [decide_eq_false h1, decide_eq_false h2]; rfl, by omega, h2⟩))

set_option maxHeartbeats 2000000 in
set_option maxRecDepth 100000 in
theorem line_calls (s : ByteArray) (w : World) (hs : s.size ≤ 1000000) : Calls Tryz.prog 133 #[.string s] w (BoolIs (VP.flineP s.data.toList) w) := by
  have HL := Lib.hid (size_eq_length s)
  go_enter Tryz.func133, Tryz.ntmps133
  go_wp2_with fail
  go_loop [6] (fun i => ∃ k : Nat, k ≤ s.size ∧ i = .int .i64 k ∧ Hid ((s.data.toList.take k).all VP.okL = true)) (fun i => s.size - (intOf i).toNat)
  case atStart => exact ⟨0, Nat.zero_le _, rfl, rfl⟩
  case round =>
    obtain ⟨k, hk, rfl, hall⟩ := hrel
    by_cases hlt : k < s.size
    · have hbt : s[k].toNat < 256 := s[k].toNat_lt
      have hts := Lib.hid (take_snoc s k hlt)
      rcases byte_line s[k] with ⟨hok, h1, h2, h3⟩ | ⟨hok, h1, h2⟩ | ⟨hok, h1, h2⟩ | ⟨hok, h1, h2⟩
      · have HK := Lib.hid (show (s.data.toList.take (k + 1)).all VP.okL = true by rw [hts.out, List.all_append, hall.out]; simp [hok])
        have e1 := beqI_ne 127 rfl h2
        clear hok hts hall h2 h3
        go_wp2_with fail
        go_round
        case rel => exact ⟨k + 1, by omega, by go_num, HK⟩
        case measure => simp [intOf]; omega
      · have HK := Lib.hid (show (s.data.toList.take (k + 1)).all VP.okL = true by rw [hts.out, List.all_append, hall.out]; simp [hok])
        have e1 := bneI 9 rfl h2
        have e2 := beqI_ne (k := 127) 127 rfl (by omega : s[k].toNat ≠ 127)
        clear hok hts hall h2
        go_wp2_with fail
        go_round
        case rel => exact ⟨k + 1, by omega, by go_num, HK⟩
        case measure => simp [intOf]; omega
      · have HF := Lib.hid (line_bad hlt hok)
        have e1 := bneI_ne 9 rfl h2
        clear hok hts hall h2 HL
        go_wp2_with fail
        go_ret
        exact ⟨ret_bool HF.out.symm, Below.refl _ _⟩
      · have HF := Lib.hid (line_bad hlt hok)
        have e1 := beqI 127 rfl h2
        clear hok hts hall h2 HL
        go_wp2_with fail
        go_ret
        exact ⟨ret_bool HF.out.symm, Below.refl _ _⟩
    · have ha : s.data.toList.all VP.okL = true := by
        have hl := HL.out
        have := hall.out
        rwa [List.take_of_length_le (by omega)] at this
      have HA := Lib.hid ha
      clear ha hall HL
      go_wp2_with fail
      refine (call_trim2 s _ hs).mono ?_
      rintro E w1 ⟨t, rfl, ht, hb⟩
      have HF := Lib.hid (line_cut HA.out ht)
      clear HA ht
      by_cases he : t = s
      · have hb' : (t.toList == s.toList) = true := by rw [he]; simp
        have HB := Lib.hid (show VP.flineP s.data.toList = true by rw [HF.out, decide_eq_true he])
        clear HF he
        go_wp2_with fail
        go_ret
        exact ⟨ret_bool HB.out.symm, hb⟩
      · have hb' : (t.toList == s.toList) = false := beq_eq_false_iff_ne.2 (fun e => he (data_inj (by rwa [Lib.toList_data, Lib.toList_data] at e)))
        have HB := Lib.hid (show VP.flineP s.data.toList = false by rw [HF.out, decide_eq_false he])
        clear HF he
        go_wp2_with fail
        go_ret
        exact ⟨ret_bool HB.out.symm, hb⟩

set_option maxHeartbeats 2000000 in
set_option maxRecDepth 100000 in
theorem isLine_calls (s : ByteArray) (w : World) (hs : s.size ≤ 1000000) : Calls Tryz.prog 126 #[.string s] w (BoolIs (VP.flineP s.data.toList) w) := by
  have HL := Lib.hid (size_eq_length s)
  go_enter Tryz.func126, Tryz.ntmps126
  go_wp2_with fail
  go_loop [6] (fun i => ∃ k : Nat, k ≤ s.size ∧ i = .int .i64 k ∧ Hid ((s.data.toList.take k).all VP.okL = true)) (fun i => s.size - (intOf i).toNat)
  case atStart => exact ⟨0, Nat.zero_le _, rfl, rfl⟩
  case round =>
    obtain ⟨k, hk, rfl, hall⟩ := hrel
    by_cases hlt : k < s.size
    · have hbt : s[k].toNat < 256 := s[k].toNat_lt
      have hts := Lib.hid (take_snoc s k hlt)
      rcases byte_line s[k] with ⟨hok, h1, h2, h3⟩ | ⟨hok, h1, h2⟩ | ⟨hok, h1, h2⟩ | ⟨hok, h1, h2⟩
      · have HK := Lib.hid (show (s.data.toList.take (k + 1)).all VP.okL = true by rw [hts.out, List.all_append, hall.out]; simp [hok])
        have e1 := beqI_ne 127 rfl h2
        clear hok hts hall h2 h3
        go_wp2_with fail
        go_round
        case rel => exact ⟨k + 1, by omega, by go_num, HK⟩
        case measure => simp [intOf]; omega
      · have HK := Lib.hid (show (s.data.toList.take (k + 1)).all VP.okL = true by rw [hts.out, List.all_append, hall.out]; simp [hok])
        have e1 := bneI 9 rfl h2
        have e2 := beqI_ne (k := 127) 127 rfl (by omega : s[k].toNat ≠ 127)
        clear hok hts hall h2
        go_wp2_with fail
        go_round
        case rel => exact ⟨k + 1, by omega, by go_num, HK⟩
        case measure => simp [intOf]; omega
      · have HF := Lib.hid (line_bad hlt hok)
        have e1 := bneI_ne 9 rfl h2
        clear hok hts hall h2 HL
        go_wp2_with fail
        go_ret
        exact ⟨ret_bool HF.out.symm, Below.refl _ _⟩
      · have HF := Lib.hid (line_bad hlt hok)
        have e1 := beqI 127 rfl h2
        clear hok hts hall h2 HL
        go_wp2_with fail
        go_ret
        exact ⟨ret_bool HF.out.symm, Below.refl _ _⟩
    · have ha : s.data.toList.all VP.okL = true := by
        have hl := HL.out
        have := hall.out
        rwa [List.take_of_length_le (by omega)] at this
      have HA := Lib.hid ha
      clear ha hall HL
      go_wp2_with fail
      refine (refTrim_calls s _ hs).mono ?_
      rintro E w1 ⟨⟨t, rfl, ht⟩, rfl⟩
      have HF := Lib.hid (line_cut HA.out ht)
      clear HA ht
      by_cases he : t = s
      · have hb' : (t.toList == s.toList) = true := by rw [he]; simp
        have HB := Lib.hid (show VP.flineP s.data.toList = true by rw [HF.out, decide_eq_true he])
        clear HF he
        go_wp2_with fail
        go_ret
        exact ⟨ret_bool HB.out.symm, Below.refl _ _⟩
      · have hb' : (t.toList == s.toList) = false := beq_eq_false_iff_ne.2 (fun e => he (data_inj (by rwa [Lib.toList_data, Lib.toList_data] at e)))
        have HB := Lib.hid (show VP.flineP s.data.toList = false by rw [HF.out, decide_eq_false he])
        clear HF he
        go_wp2_with fail
        go_ret
        exact ⟨ret_bool HB.out.symm, Below.refl _ _⟩
end Go.Proofs.YtodbbfgkclkpgaaGreatDoor

namespace Go.Proofs.YtodbbfgkclkpgaaGreatDoor
open Go Go.RowKit

/-- a row of n bytes of the call's own -/
structure ByteRow (w0 w : World) (b : Nat) (n : Nat) (f : Nat → UInt8) : Prop where
  cells : ∀ j, j < n → w.cell? ⟨b, j, none⟩ = some (.int .u8 ((f j).toNat : Int))
  free : ∀ j, j < n → w.frozen? ⟨b, j, none⟩ = false
  below : Below w0.heap.size w0 w
  high : w0.heap.size ≤ b

theorem ByteRow.store {w0 w : World} {b n k : Nat} {f g : Nat → UInt8} (h : ByteRow w0 w b n f) (hk : k < n) (hg : ∀ j, j ≠ k → g j = f j) {z : Int} (hz : z = ((g k).toNat : Int)) : ByteRow w0 (w.setCell ⟨b, k, none⟩ (.int .u8 z)) b n g where
  cells := fun j hj => by
    by_cases e : j = k
    · subst e
      rw [World.cell?_setCell_same (v := .int .u8 z) (h := h.cells j hj), hz]
    · have hne : (⟨b, k, none⟩ : Addr) ≠ ⟨b, j, none⟩ := fun e' => e (by injection e' with _ h2 _; exact h2.symm)
      rw [World.cell?_setCell_other (h := hne), h.cells j hj, hg j e]
  free := fun j hj => by rw [World.frozen?_setCell]; exact h.free j hj
  below := h.below.setCell h.high _
  high := h.high
theorem ByteRow.same {w0 w : World} {b n : Nat} {f g : Nat → UInt8} (h : ByteRow w0 w b n f) (hg : ∀ j, j < n → g j = f j) : ByteRow w0 w b n g := ⟨fun j hj => by rw [hg j hj]; exact h.cells j hj, h.free, h.below, h.high⟩

def nthB (s : ByteArray) (j : Nat) : UInt8 := s.data.toList.getD j 0
theorem nthB_at {s : ByteArray} {k : Nat} (h : k < s.size) : nthB s k = s[k] := by
  unfold nthB
  rw [List.getD_eq_getElem?_getD, List.getElem?_eq_getElem (by rw [← size_eq_length]; exact h)]
  rfl
theorem bytes_row (w : World) (s : ByteArray) : ByteRow w (Lib.bytesWorld w 5 s) w.heap.size s.size (nthB s) where
  cells := fun j hj => Lib.bytesWorld_cell w 5 s j hj
  free := fun j hj => by
    unfold World.frozen?
    rw [Lib.bytesWorld_at_new]
    have hsz : s.size ≤ (Lib.bytesCells w 5 s).size := by
      unfold Lib.bytesCells
      rw [Array.size_append, Array.size_map]
      exact Nat.le_add_right _ _
    simp
    omega
  below := by
    refine ⟨rfl, rfl, rfl, by rw [Lib.bytesWorld_size]; omega, fun i hi => Lib.bytesWorld_at_old w 5 s i hi⟩
  high := Nat.le_refl _

theorem row_string {w0 w : World} {b : Nat} {s : ByteArray} (h : ByteRow w0 w b s.size (fun j => VP.lowC (nthB s j))) (cap : Nat) :
    (convert 106 9 (.slice (some ⟨b, 0, none⟩) s.size cap)).run Tryz.prog w = .ok (.string ⟨(VP.smallP s.data.toList).toArray⟩) w := by
  have hl : (VP.smallP s.data.toList).length = s.size := by unfold VP.smallP; rw [List.length_map, ← size_eq_length]
  have := run_convert_bytes_back (P := Tryz.prog) w 106 9 5 ⟨b, 0, none⟩ cap (VP.smallP s.data.toList) Tryz.underlying106 Tryz.underlying5 Tryz.underlying9 (fun j hj => by
    rw [hl] at hj
    have e : (VP.smallP s.data.toList)[j]'(by rw [hl]; exact hj) = VP.lowC (nthB s j) := by
      unfold VP.smallP
      rw [List.getElem_map, nthB_at hj]
      rfl
    rw [Go.WideShapes.add_plain, Nat.zero_add, h.cells j hj, e])
  rwa [hl] at this

theorem low_up {c : UInt8} (h : 65 ≤ c.toNat ∧ c.toNat ≤ 90) : ((VP.lowC c).toNat : Int) = (c.toNat : Int) + 32 := by
  unfold VP.lowC
  rw [if_pos h, UInt8.toNat_add]
  have : (c.toNat + (32 : UInt8).toNat) % 2 ^ 8 = c.toNat + 32 := by
    show (c.toNat + 32) % 256 = _
    omega
  rw [this]
  omega
theorem low_not {c : UInt8} (h : ¬ (65 ≤ c.toNat ∧ c.toNat ≤ 90)) : VP.lowC c = c := if_neg h

def SmallIs (s : ByteArray) (w : World) (E : Ending) (w' : World) : Prop := E = .returned (.string ⟨(VP.smallP s.data.toList).toArray⟩) ∧ Below w.heap.size w w'

set_option maxHeartbeats 2000000 in
set_option maxRecDepth 100000 in
theorem small_calls (s : ByteArray) (w : World) (hs : s.size ≤ 1000000) : Calls Tryz.prog 132 #[.string s] w (SmallIs s w) := by
  have hcv := Lib.run_convert_string_bytes (P := Tryz.prog) w 9 106 5 s (u := .string) Tryz.underlying9 Tryz.underlying106 Tryz.underlying5
  have hS := bytes_row w s
  have hcap := grownCap_ge w s.size 0 5
  obtain ⟨cap, hcp⟩ : ∃ c, grownCap w s.size 0 5 = c := ⟨_, rfl⟩
  rw [hcp] at hcv hcap
  obtain ⟨b, hb⟩ : ∃ b, w.heap.size = b := ⟨_, rfl⟩
  obtain ⟨W1, hW1⟩ : ∃ W1, W1 = Lib.bytesWorld w 5 s := ⟨_, rfl⟩
  rw [← hW1] at hcv hS
  have HS := Lib.hid hS
  rw [hb] at hcv HS
  have HB := Lib.hid hb
  clear hW1 hcp hb hS
  go_enter Tryz.func132, Tryz.ntmps132
  go_wp2_with fail
  go_loopw [10] (fun i wr => ∃ k : Nat, k ≤ s.size ∧ i = .int .i64 k ∧ Hid (ByteRow w wr b s.size (fun j => if j < k then VP.lowC (nthB s j) else nthB s j))) (fun i _ => s.size - (intOf i).toNat)
  case atStart => exact ⟨0, Nat.zero_le _, rfl, HS.out.same (fun j _ => if_neg (Nat.not_lt_zero j))⟩
  case round =>
    obtain ⟨k, hk, rfl, hall⟩ := hrel
    by_cases hlt : k < s.size
    · have hbt : s[k].toNat < 256 := s[k].toNat_lt
      have hc := hall.out.cells k hlt
      have hf := hall.out.free k hlt
      rw [if_neg (Nat.lt_irrefl k), nthB_at hlt] at hc
      by_cases hu : 65 ≤ s[k].toNat ∧ s[k].toNat ≤ 90
      · have HU := Lib.hid hu
        obtain ⟨h1, h2⟩ := hu
        go_wp2_with fail
        go_roundw
        case rel => exact ⟨k + 1, by omega, by go_num, Lib.hid (hall.out.store hlt (g := fun j => if j < k + 1 then VP.lowC (nthB s j) else nthB s j) (fun j hj => by
            by_cases h : j < k
            · rw [if_pos h, if_pos (by omega)]
            · rw [if_neg h, if_neg (by omega)]) (by rw [if_pos (Nat.lt_succ_self k), nthB_at hlt, low_up HU.out]; omega))⟩
        case measure => simp [intOf]; omega
      · have HU := Lib.hid (show VP.lowC (nthB s k) = nthB s k by rw [nthB_at hlt]; exact low_not hu)
        have HG := Lib.hid (hall.out.same (g := fun j => if j < k + 1 then VP.lowC (nthB s j) else nthB s j) (fun j _ => by
            by_cases h : j < k
            · rw [if_pos h, if_pos (by omega)]
            · by_cases h' : j = k
              · subst h'; rw [if_neg h, if_pos (Nat.lt_succ_self j), HU.out]
              · rw [if_neg h, if_neg (by omega)]))
        have hu' : s[k].toNat < 65 ∨ 90 < s[k].toNat := by omega
        clear hu hall HU
        rcases hu' with h1 | h1
        · go_wp2_with fail
          go_roundw
          case rel => exact ⟨k + 1, by omega, by go_num, HG⟩
          case measure => simp [intOf]; omega
        · go_wp2_with fail
          go_roundw
          case rel => exact ⟨k + 1, by omega, by go_num, HG⟩
          case measure => simp [intOf]; omega
    · obtain rfl : k = s.size := by omega
      have hR := hall.out.same (g := fun j => VP.lowC (nthB s j)) (fun j hj => by rw [if_pos hj])
      have hcv2 := row_string hR cap
      have HR := Lib.hid hR.below
      clear hR hall HS hcv
      go_wp2_with fail
      go_ret
      exact ⟨rfl, HR.out⟩

theorem info_u8 : (Tryz.prog.info? 5).map (fun i => (i.zero, i.size, i.bytes)) = some (some (.int .u8 0), 1, 1) := by kernel_rfl
theorem made_row {w0 w1 : World} {b n : Nat} (ho : w1.ownsRow w0.heap.size 5 1 (.slice (some ⟨b, 0, none⟩) n n) n (madeCells (Value.int .u8 0).cells (n * 1)).toList) (hg : w0.grownBy w1 none) (hb : w0.heap.size ≤ b) : ByteRow w0 w1 b n (fun _ => 0) where
  cells := fun j hj => by
    have := ho.cells (g := b) rfl j (.int .u8 0) (by
      rw [Array.getElem?_toList]
      simp [madeCells, hj]
      have h1 : (Value.int IntKind.u8 0).cells = #[.int .u8 0] := rfl
      rw [h1, show (#[Value.int IntKind.u8 0] : Array Value).size = 1 from rfl, Nat.mod_one]
      rfl)
    rw [Go.WideShapes.add_plain, Nat.zero_add] at this
    rw [this]
    rfl
  free := fun j hj => by
    rcases ho.2 with ⟨h, _⟩ | ⟨g, cap, cur, hv, _, hk, _⟩
    · cases h
    · injection hv with h1 _ _
      injection h1 with h1
      injection h1 with h1 _ _
      subst h1
      unfold World.frozen?
      rw [hk]
      simp
  below := ⟨hg.os, hg.tape, hg.output, hg.size, fun i hi => hg.block i hi (by simp)⟩
  high := hb

set_option maxHeartbeats 2000000 in
set_option maxRecDepth 100000 in
theorem refSmall_calls (s : ByteArray) (w : World) (hs : s.size ≤ 1000000) : Calls Tryz.prog 125 #[.string s] w (SmallIs s w) := by
  obtain ⟨i0, hi, hz0, hz1, hz2⟩ := info_parts info_u8
  go_enter Tryz.func125, Tryz.ntmps125
  go_wp2_with (at_make; refine wpList_make_full _ rfl _ _ 106 rfl w.heap.size 5 i0 (.int .u8 0) 1 Tryz.underlying106 hi hz0 hz1 .i64 .i64 _ _ s.size rfl rfl rfl rfl (by rw [hz2]; omega) (by simp only [maxLen]; omega) (Nat.le_refl _) ?_; intro w1 own1 g1)
  have hS := made_row own1 g1 (Nat.le_refl _)
  obtain ⟨b, hb⟩ : ∃ b, w.heap.size = b := ⟨_, rfl⟩
  have HS := Lib.hid hS
  rw [hb] at HS ⊢
  clear hS own1 g1 hi hz0 hz1 hz2 hb
  go_loopw [11] (fun i wr => ∃ k : Nat, k ≤ s.size ∧ i = .int .i64 k ∧ Hid (ByteRow w wr b s.size (fun j => if j < k then VP.lowC (nthB s j) else 0))) (fun i _ => s.size - (intOf i).toNat)
  case atStart => exact ⟨0, Nat.zero_le _, rfl, HS.out.same (fun j _ => if_neg (Nat.not_lt_zero j))⟩
  case round =>
    obtain ⟨k, hk, rfl, hall⟩ := hrel
    by_cases hlt : k < s.size
    · have hbt : s[k].toNat < 256 := s[k].toNat_lt
      have hc := hall.out.cells k hlt
      have hf := hall.out.free k hlt
      rw [if_neg (Nat.lt_irrefl k)] at hc
      have HN := Lib.hid (fun (z : Int) (hz : z = ((VP.lowC s[k]).toNat : Int)) => hall.out.store hlt (g := fun j => if j < k + 1 then VP.lowC (nthB s j) else 0) (fun j hj => by
            by_cases h : j < k
            · rw [if_pos h, if_pos (by omega)]
            · rw [if_neg h, if_neg (by omega)]) (z := z) (by rw [if_pos (Nat.lt_succ_self k), nthB_at hlt, hz]))
      by_cases hu : 65 ≤ s[k].toNat ∧ s[k].toNat ≤ 90
      · have HU := Lib.hid (low_up hu)
        obtain ⟨h1, h2⟩ := hu
        go_wp2_with fail
        go_roundw
        case rel => exact ⟨k + 1, by omega, by go_num, Lib.hid (HN.out _ (by rw [HU.out]))⟩
        case measure => simp [intOf]; omega
      · have HU := Lib.hid (low_not hu)
        have hu' : s[k].toNat < 65 ∨ 90 < s[k].toNat := by omega
        clear hu
        rcases hu' with h1 | h1
        · go_wp2_with fail
          go_roundw
          case rel => exact ⟨k + 1, by omega, by go_num, Lib.hid (HN.out _ (by rw [HU.out]))⟩
          case measure => simp [intOf]; omega
        · go_wp2_with fail
          go_roundw
          case rel => exact ⟨k + 1, by omega, by go_num, Lib.hid (HN.out _ (by rw [HU.out]))⟩
          case measure => simp [intOf]; omega
    · obtain rfl : k = s.size := by omega
      have hR := hall.out.same (g := fun j => VP.lowC (nthB s j)) (fun j hj => by rw [if_pos hj])
      have hcv2 := row_string hR s.size
      have HR := Lib.hid hR.below
      clear hR hall HS
      go_wp2_with fail
      go_ret
      exact ⟨rfl, HR.out⟩
end Go.Proofs.YtodbbfgkclkpgaaGreatDoor

namespace Go.Proofs.YtodbbfgkclkpgaaGreatDoor
open Go Go.RowKit

/-- the builder at b (of the call's own, from B on) holds these bytes -/
def BldAt (B b : Nat) (l : List UInt8) (w : World) : Prop := Lib.IsBuilderF 108 5 B b (Lib.byteCells l) w
theorem BldAt.alloc {B b : Nat} {l : List UInt8} {w : World} (h : BldAt B b l w) (o : Obj) : BldAt B b l (w.alloc o) := Lib.IsBuilderF.alloc h o
theorem BldAt.drewN {B b : Nat} {l : List UInt8} {w : World} (h : BldAt B b l w) (n : Nat) : BldAt B b l (w.drewN n) := h
end Go.Proofs.YtodbbfgkclkpgaaGreatDoor

namespace Go.Proofs.YtodbbfgkclkpgaaGreatDoor
open Go Go.RowKit

/-- cut at the first line feed -/
structure Cut10 (s A R : ByteArray) (m : Bool) (todo : List (List UInt8)) : Prop where
  pcs : VP.pieces 10 s.data.toList = A.data.toList :: todo
  more : m = true → VP.pieces 10 R.data.toList = todo
  none : m = false → todo = []
  small : A.size ≤ s.size
  less : m = true → R.size < s.size
/-- what is written so far, and what is to come -/
structure WroteAt (w w' : World) (T l todo : List UInt8) : Prop where
  eq : l ++ todo = T
  bld : BldAt w.heap.size w.heap.size l w'
  below : Below w.heap.size w w'
theorem WroteAt.len {w w' : World} {T l todo : List UInt8} (h : WroteAt w w' T l todo) : l.length + todo.length = T.length := by rw [← h.eq, List.length_append]
end Go.Proofs.YtodbbfgkclkpgaaGreatDoor
