/- The fields that a package is: as texts; how long they are. · stanza.name, the reference's Name: how a field may be called. -/
import Derived.Test.YtodbbfgkclkpgaaGreatDoorAW26
import Derived.Test.YtodbbfgkclkpgaaGreatDoorAW7
import Derived.Test.YtodbbfgkclkpgaaGreatDoorAW11
namespace Go.Proofs.YtodbbfgkclkpgaaGreatDoor
open Go Go.RowKit

def nPackage : ByteArray := ⟨#[80, 97, 99, 107, 97, 103, 101]⟩
def nVersion : ByteArray := ⟨#[86, 101, 114, 115, 105, 111, 110]⟩
def nDepends : ByteArray := ⟨#[68, 101, 112, 101, 110, 100, 115]⟩
def nPre : ByteArray := ⟨#[80, 114, 101, 45, 68, 101, 112, 101, 110, 100, 115]⟩
def nConflicts : ByteArray := ⟨#[67, 111, 110, 102, 108, 105, 99, 116, 115]⟩
def nBreaks : ByteArray := ⟨#[66, 114, 101, 97, 107, 115]⟩
def nReplaces : ByteArray := ⟨#[82, 101, 112, 108, 97, 99, 101, 115]⟩
def nProvides : ByteArray := ⟨#[80, 114, 111, 118, 105, 100, 101, 115]⟩
def nConffiles : ByteArray := ⟨#[67, 111, 110, 102, 102, 105, 108, 101, 115]⟩
def nTriggers : ByteArray := ⟨#[84, 114, 105, 103, 103, 101, 114, 115]⟩

def versS (p : Pv) : ByteArray := ⟨(VP.printP p.e p.u.data.toList p.r.data.toList).toArray⟩
def singS (ts : List Tv) : ByteArray := wholeS (ts.map fun t => [t])
def linesS (ss : List ByteArray) : ByteArray := ⟨(VP.linesOf (ss.map (·.data.toList))).toArray⟩

/-- the fields, one by one -/
def fld0 (p : Pv) : List Fv := [⟨nPackage, p.n⟩, ⟨nVersion, versS p⟩]
def fld1 (p : Pv) : List Fv := fld0 p ++ optF nDepends (wholeS p.dep)
def fld2 (p : Pv) : List Fv := fld1 p ++ optF nPre (wholeS p.ahead)
def fld3 (p : Pv) : List Fv := fld2 p ++ optF nConflicts (singS p.ag)
def fld4 (p : Pv) : List Fv := fld3 p ++ optF nBreaks (singS p.br)
def fld5 (p : Pv) : List Fv := fld4 p ++ optF nReplaces (singS p.re)
def fld6 (p : Pv) : List Fv := fld5 p ++ optF nProvides (singS p.pr)
def fld7 (p : Pv) : List Fv := fld6 p ++ optF nConffiles (linesS p.se)
def fldB (p : Pv) : List Fv := fld7 p ++ optF nTriggers (linesS p.li)

theorem optF_len (n v : ByteArray) : (optF n v).length ≤ 1 := by unfold optF; split <;> simp
theorem fld_lens (p : Pv) : (fld0 p).length = 2 ∧ (fld1 p).length ≤ 3 ∧ (fld2 p).length ≤ 4 ∧ (fld3 p).length ≤ 5 ∧ (fld4 p).length ≤ 6 ∧ (fld5 p).length ≤ 7 ∧ (fld6 p).length ≤ 8 ∧ (fld7 p).length ≤ 9 ∧ (fldB p).length ≤ 10 := by
  have h0 : (fld0 p).length = 2 := rfl
  have h1 : (fld1 p).length ≤ 3 := by unfold fld1; rw [List.length_append]; have := optF_len nDepends (wholeS p.dep); omega
  have h2 : (fld2 p).length ≤ 4 := by unfold fld2; rw [List.length_append]; have := optF_len nPre (wholeS p.ahead); omega
  have h3 : (fld3 p).length ≤ 5 := by unfold fld3; rw [List.length_append]; have := optF_len nConflicts (singS p.ag); omega
  have h4 : (fld4 p).length ≤ 6 := by unfold fld4; rw [List.length_append]; have := optF_len nBreaks (singS p.br); omega
  have h5 : (fld5 p).length ≤ 7 := by unfold fld5; rw [List.length_append]; have := optF_len nReplaces (singS p.re); omega
  have h6 : (fld6 p).length ≤ 8 := by unfold fld6; rw [List.length_append]; have := optF_len nProvides (singS p.pr); omega
  have h7 : (fld7 p).length ≤ 9 := by unfold fld7; rw [List.length_append]; have := optF_len nConffiles (linesS p.se); omega
  have h8 : (fldB p).length ≤ 10 := by unfold fldB; rw [List.length_append]; have := optF_len nTriggers (linesS p.li); omega
  exact ⟨h0, h1, h2, h3, h4, h5, h6, h7, h8⟩

theorem wholeS_size {L : List (List Tv)} (h : VP.askedP (tmL L) = true) : (wholeS L).size ≤ 200000 := by
  obtain ⟨hlen, hx⟩ := asked_sizes h
  have h1 := joinP_len [44, 32] 4000 ((L.map lineS).map (·.data.toList)) (fun y hy => by
    obtain ⟨s', hs', rfl⟩ := List.mem_map.1 hy
    obtain ⟨x, hx', rfl⟩ := List.mem_map.1 hs'
    obtain ⟨h2, h3⟩ := hx x hx'
    have := lineS_len h3
    omega)
  rw [← joinP_eq, wholeS_eq, List.length_map, List.length_map, ← size_eq_length] at h1
  simp at h1
  exact Nat.le_trans h1 (by omega)
end Go.Proofs.YtodbbfgkclkpgaaGreatDoor

namespace Go.Proofs.YtodbbfgkclkpgaaGreatDoor
open Go.RowKit

theorem fname_bad {s : ByteArray} {k : Nat} (hlt : k < s.size) (h : VP.okN s[k] = false) : VP.fnameP s.data.toList = false := by
  have : s.data.toList.all VP.okN = false := by
    rw [← List.take_append_drop k s.data.toList, drop_cons s k hlt, List.all_append, List.all_cons, h]
    simp
  unfold VP.fnameP
  rw [this]
  rfl
/-- what is left when all bytes are well -/
theorem fname_rest {s : ByteArray} (h : s.data.toList.all VP.okN = true) : VP.fnameP s.data.toList = (decide (1 ≤ s.size) && decide (s.size ≤ 24) && !(s.data.toList.head? == some 35) && !(s.data.toList.head? == some 45)) := by
  unfold VP.fnameP
  rw [h, ← size_eq_length]
  rfl
theorem head_at (s : ByteArray) (h : 0 < s.size) (n : Nat) (hn : n < 256) : (s.data.toList.head? == some (UInt8.ofNat n)) = decide (s[0].toNat = n) := by
  rw [list_cons s h]
  show (some s[0] == some (UInt8.ofNat n)) = _
  rw [← u8_beq s[0] n hn]
  rfl
theorem beqI {n k : Nat} (m : Int) (hm : m = (k : Int)) (h : n = k) : ((n : Int) == m) = true := by rw [beq_iff_eq]; omega
theorem beqI_ne {n k : Nat} (m : Int) (hm : m = (k : Int)) (h : n ≠ k) : ((n : Int) == m) = false := by rw [beq_eq_false_iff_ne]; omega
theorem bneI {n k : Nat} (m : Int) (hm : m = (k : Int)) (h : n = k) : ((n : Int) != m) = false := by rw [bne, beqI m hm h]; rfl
theorem bneI_ne {n k : Nat} (m : Int) (hm : m = (k : Int)) (h : n ≠ k) : ((n : Int) != m) = true := by rw [bne, beqI_ne m hm h]; rfl

set_option maxHeartbeats 2000000 in
set_option maxRecDepth 100000 in
theorem fname_calls (s : ByteArray) (w : World) (hs : s.size ≤ 1000000) : Calls Tryz.prog 129 #[.string s] w fun E w' => E = .returned (.bool (VP.fnameP s.data.toList)) ∧ w = w' := by
  have HL := Lib.hid (size_eq_length s)
  go_enter Tryz.func129, Tryz.ntmps129
  go_wp2_with fail
  go_loop [6] (fun i => ∃ k : Nat, k ≤ s.size ∧ i = .int .i64 k ∧ Hid ((s.data.toList.take k).all VP.okN = true)) (fun i => s.size - (intOf i).toNat)
  case atStart => exact ⟨0, Nat.zero_le _, rfl, rfl⟩
  case round =>
    obtain ⟨k, hk, rfl, hall⟩ := hrel
    by_cases hlt : k < s.size
    · have hbt : s[k].toNat < 256 := s[k].toNat_lt
      have hts := Lib.hid (take_snoc s k hlt)
      have ho : VP.okN s[k] = (decide (33 ≤ s[k].toNat) && decide (s[k].toNat ≤ 126) && !decide (s[k].toNat = 58)) := by
        unfold VP.okN
        rw [show (s[k] == 58) = decide (s[k].toNat = 58) from u8_beq s[k] 58 (by omega)]
      by_cases hok : VP.okN s[k] = true
      · have HK := Lib.hid (show (s.data.toList.take (k + 1)).all VP.okN = true by rw [hts.out, List.all_append, hall.out]; simp [hok])
        rw [ho] at hok
        simp only [Bool.and_eq_true, decide_eq_true_eq, Bool.not_eq_true', decide_eq_false_iff_not] at hok
        obtain ⟨⟨h1, h2⟩, h3⟩ := hok
        have hb := beqI_ne 58 rfl h3
        clear ho hts hall h3
        go_wp2_with fail
        go_round
        case rel => exact ⟨k + 1, by omega, by go_num, HK⟩
        case measure => simp [intOf]; omega
      · have HF := Lib.hid (fname_bad hlt (Bool.eq_false_iff.2 hok))
        have hc : s[k].toNat < 33 ∨ 126 < s[k].toNat ∨ (33 ≤ s[k].toNat ∧ s[k].toNat ≤ 126 ∧ s[k].toNat = 58) := by
          rw [ho] at hok
          simp only [Bool.and_eq_true, decide_eq_true_eq, Bool.not_eq_true', decide_eq_false_iff_not] at hok
          omega
        clear ho hok hts hall HL
        rcases hc with h | h | ⟨h1, h2, h3⟩
        · go_wp2_with fail
          go_ret
          exact ⟨ret_bool HF.out.symm, rfl⟩
        · go_wp2_with fail
          go_ret
          exact ⟨ret_bool HF.out.symm, rfl⟩
        · have hb := beqI 58 rfl h3
          clear h3
          go_wp2_with fail
          go_ret
          exact ⟨ret_bool HF.out.symm, rfl⟩
    · have ha : s.data.toList.all VP.okN = true := by
        have hl := HL.out
        have := hall.out
        rwa [List.take_of_length_le (by omega)] at this
      have F := Lib.hid (fname_rest ha)
      clear ha hall
      by_cases h0 : s.size = 0
      · have HF := Lib.hid (show VP.fnameP s.data.toList = false by rw [F.out, decide_eq_false (by omega : ¬ 1 ≤ s.size)]; rfl)
        have hz := isEmpty_true s h0
        clear F
        go_wp2_with fail
        go_ret
        exact ⟨ret_bool HF.out.symm, rfl⟩
      have hz := isEmpty_false s (by omega)
      by_cases h24 : s.size ≤ 24
      case neg =>
        have HF := Lib.hid (show VP.fnameP s.data.toList = false by rw [F.out, decide_eq_false h24]; simp)
        clear F
        go_wp2_with fail
        go_ret
        exact ⟨ret_bool HF.out.symm, rfl⟩
      have hpos : 0 < s.size := by omega
      have hbt : (s[0]'hpos).toNat < 256 := (s[0]'hpos).toNat_lt
      have G : VP.fnameP s.data.toList = (!decide ((s[0]'hpos).toNat = 35) && !decide ((s[0]'hpos).toNat = 45)) := by
        rw [F.out, show (s.data.toList.head? == some 35) = _ from head_at s hpos 35 (by omega), show (s.data.toList.head? == some 45) = _ from head_at s hpos 45 (by omega), decide_eq_true (by omega : 1 ≤ s.size), decide_eq_true h24]
        rfl
      by_cases h35 : (s[0]'hpos).toNat = 35
      · have HF := Lib.hid (show VP.fnameP s.data.toList = false by rw [G, decide_eq_true h35]; rfl)
        have hb := bneI 35 rfl h35
        clear F G h35
        go_wp2_with fail
        go_ret
        exact ⟨ret_bool HF.out.symm, rfl⟩
      · by_cases h45 : (s[0]'hpos).toNat = 45
        · have HF := Lib.hid (show VP.fnameP s.data.toList = false by rw [G, decide_eq_true h45]; simp)
          have hb := bneI_ne 35 rfl h35
          have hb' := bneI 45 rfl h45
          clear F G h35 h45
          go_wp2_with fail
          go_ret
          exact ⟨ret_bool HF.out.symm, rfl⟩
        · have HF := Lib.hid (show VP.fnameP s.data.toList = true by rw [G, decide_eq_false h35, decide_eq_false h45]; rfl)
          have hb := bneI_ne 35 rfl h35
          have hb' := bneI_ne 45 rfl h45
          clear F G h35 h45
          go_wp2_with fail
          go_ret
          exact ⟨ret_bool HF.out.symm, rfl⟩

set_option maxHeartbeats 2000000 in
set_option maxRecDepth 100000 in
theorem refName_calls (s : ByteArray) (w : World) (hs : s.size ≤ 1000000) : Calls Tryz.prog 124 #[.string s] w fun E w' => E = .returned (.bool (VP.fnameP s.data.toList)) ∧ w = w' := by
  have HL := Lib.hid (size_eq_length s)
  go_enter Tryz.func124, Tryz.ntmps124
  go_wp2_with fail
  go_loop [6] (fun i => ∃ k : Nat, k ≤ s.size ∧ i = .int .i64 k ∧ Hid ((s.data.toList.take k).all VP.okN = true)) (fun i => s.size - (intOf i).toNat)
  case atStart => exact ⟨0, Nat.zero_le _, rfl, rfl⟩
  case round =>
    obtain ⟨k, hk, rfl, hall⟩ := hrel
    by_cases hlt : k < s.size
    · have hbt : s[k].toNat < 256 := s[k].toNat_lt
      have hts := Lib.hid (take_snoc s k hlt)
      have ho : VP.okN s[k] = (decide (33 ≤ s[k].toNat) && decide (s[k].toNat ≤ 126) && !decide (s[k].toNat = 58)) := by
        unfold VP.okN
        rw [show (s[k] == 58) = decide (s[k].toNat = 58) from u8_beq s[k] 58 (by omega)]
      obtain ⟨bi, hbi⟩ : ∃ b, inB (s[k].toNat : Int) 33 126 = b := ⟨_, rfl⟩
      have CI := Lib.hid (fun (W : World) => in_calls (s[k].toNat : Int) 33 126 W)
      rw [hbi] at CI
      have hin : (33 ≤ s[k].toNat ∧ s[k].toNat ≤ 126) ↔ bi = true := by
        rw [← hbi]; unfold inB; simp; omega
      clear hbi
      by_cases hok : VP.okN s[k] = true
      · have HK := Lib.hid (show (s.data.toList.take (k + 1)).all VP.okN = true by rw [hts.out, List.all_append, hall.out]; simp [hok])
        rw [ho] at hok
        simp only [Bool.and_eq_true, decide_eq_true_eq, Bool.not_eq_true', decide_eq_false_iff_not] at hok
        obtain ⟨⟨h1, h2⟩, h3⟩ := hok
        obtain rfl := hin.1 ⟨h1, h2⟩
        have hb := beqI_ne 58 rfl h3
        clear ho hts hall h3 hin h1 h2
        go_wp2_with (go_at_call 75; refine (CI.out _).mono ?_; rintro e w' ⟨rfl, rfl⟩)
        go_round
        case rel => exact ⟨k + 1, by omega, by go_num, HK⟩
        case measure => simp [intOf]; omega
      · have HF := Lib.hid (fname_bad hlt (Bool.eq_false_iff.2 hok))
        have hc : bi = false ∨ (bi = true ∧ s[k].toNat = 58) := by
          rw [ho] at hok
          simp only [Bool.and_eq_true, decide_eq_true_eq, Bool.not_eq_true', decide_eq_false_iff_not] at hok
          cases bi with
          | false => exact .inl rfl
          | true => exact .inr ⟨rfl, by have := hin.2 rfl; omega⟩
        clear ho hok hts hall HL hin
        rcases hc with rfl | ⟨rfl, h3⟩
        · go_wp2_with (go_at_call 75; refine (CI.out _).mono ?_; rintro e w' ⟨rfl, rfl⟩)
          go_ret
          exact ⟨ret_bool HF.out.symm, rfl⟩
        · have hb := beqI 58 rfl h3
          clear h3
          go_wp2_with (go_at_call 75; refine (CI.out _).mono ?_; rintro e w' ⟨rfl, rfl⟩)
          go_ret
          exact ⟨ret_bool HF.out.symm, rfl⟩
    · have ha : s.data.toList.all VP.okN = true := by
        have hl := HL.out
        have := hall.out
        rwa [List.take_of_length_le (by omega)] at this
      have F := Lib.hid (fname_rest ha)
      clear ha hall
      obtain ⟨bi, hbi⟩ : ∃ b, inB (s.size : Int) 1 24 = b := ⟨_, rfl⟩
      have CI := Lib.hid (fun (W : World) => in_calls (s.size : Int) 1 24 W)
      rw [hbi] at CI
      cases bi with
      | false =>
        have HF := Lib.hid (show VP.fnameP s.data.toList = false by
          have e : (decide (1 ≤ s.size) && decide (s.size ≤ 24)) = false := by
            rw [← hbi]; unfold inB; rw [Bool.eq_iff_iff]; simp; omega
          rw [F.out, e]; rfl)
        clear F hbi
        go_wp2_with (go_at_call 75; refine (CI.out _).mono ?_; rintro e w' ⟨rfl, rfl⟩)
        go_ret
        exact ⟨ret_bool HF.out.symm, rfl⟩
      | true =>
      have h24 : 1 ≤ s.size ∧ s.size ≤ 24 := by
        unfold inB at hbi
        simp at hbi
        omega
      have hpos : 0 < s.size := by omega
      have hbt : (s[0]'hpos).toNat < 256 := (s[0]'hpos).toNat_lt
      have G : VP.fnameP s.data.toList = (!decide ((s[0]'hpos).toNat = 35) && !decide ((s[0]'hpos).toNat = 45)) := by
        rw [F.out, show (s.data.toList.head? == some 35) = _ from head_at s hpos 35 (by omega), show (s.data.toList.head? == some 45) = _ from head_at s hpos 45 (by omega), decide_eq_true h24.1, decide_eq_true h24.2]
        rfl
      clear hbi h24
      by_cases h35 : (s[0]'hpos).toNat = 35
      · have HF := Lib.hid (show VP.fnameP s.data.toList = false by rw [G, decide_eq_true h35]; rfl)
        have hb := bneI 35 rfl h35
        clear F G h35
        go_wp2_with (go_at_call 75; refine (CI.out _).mono ?_; rintro e w' ⟨rfl, rfl⟩)
        go_ret
        exact ⟨ret_bool HF.out.symm, rfl⟩
      · by_cases h45 : (s[0]'hpos).toNat = 45
        · have HF := Lib.hid (show VP.fnameP s.data.toList = false by rw [G, decide_eq_true h45]; simp)
          have hb := bneI_ne 35 rfl h35
          have hb' := bneI 45 rfl h45
          clear F G h35 h45
          go_wp2_with (go_at_call 75; refine (CI.out _).mono ?_; rintro e w' ⟨rfl, rfl⟩)
          go_ret
          exact ⟨ret_bool HF.out.symm, rfl⟩
        · have HF := Lib.hid (show VP.fnameP s.data.toList = true by rw [G, decide_eq_false h35, decide_eq_false h45]; rfl)
          have hb := bneI_ne 35 rfl h35
          have hb' := bneI_ne 45 rfl h45
          clear F G h35 h45
          go_wp2_with (go_at_call 75; refine (CI.out _).mono ?_; rintro e w' ⟨rfl, rfl⟩)
          go_ret
          exact ⟨ret_bool HF.out.symm, rfl⟩
end Go.Proofs.YtodbbfgkclkpgaaGreatDoor
