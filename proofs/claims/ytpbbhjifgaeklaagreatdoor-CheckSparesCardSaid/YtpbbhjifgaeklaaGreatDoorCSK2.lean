/- The walks of package version: what its functions compute. · version.Print: how a version is written. -/
import Derived.Test.YtpbbhjifgaeklaaGreatDoorCSK1
namespace Go.Proofs.YtpbbhjifgaeklaaGreatDoor
open Go.RowKit

def lettersB : ByteArray := ⟨#[97, 98, 99, 100, 101, 102, 103, 104, 105, 106, 107, 108, 109, 110, 111, 112, 113, 114, 115, 116, 117, 118, 119, 120, 121, 122, 65, 66, 67, 68, 69, 70, 71, 72, 73, 74, 75, 76, 77, 78, 79, 80, 81, 82, 83, 84, 85, 86, 87, 88, 89, 90]⟩

/-- where a byte stands among the digits -/
def idxD (c : UInt8) : Int := Lib.indexByte digitsB.data.toList c
def idxL (c : UInt8) : Int := Lib.indexByte lettersB.data.toList c

theorem idxD_fin : ∀ i : Fin 256, decide (0 ≤ idxD (UInt8.ofNat i.val)) = VP.dig (UInt8.ofNat i.val) := by decide +kernel
theorem idxL_fin : ∀ i : Fin 256, decide (0 ≤ idxL (UInt8.ofNat i.val)) = VP.lett (UInt8.ofNat i.val) := by decide +kernel
theorem idxD_dig (c : UInt8) : decide (0 ≤ idxD c) = VP.dig c := by
  have := idxD_fin ⟨c.toNat, c.toNat_lt⟩
  simpa using this
theorem idxL_lett (c : UInt8) : decide (0 ≤ idxL c) = VP.lett c := by
  have := idxL_fin ⟨c.toNat, c.toNat_lt⟩
  simpa using this

theorem call_idxD (c : UInt8) (w : World) : Calls Tryz.prog 140 #[.string ⟨#[48, 49, 50, 51, 52, 53, 54, 55, 56, 57]⟩, .int .u8 (c.toNat : Int)] w fun e w' => e = .returned (.int .i64 (idxD c)) ∧ w = w' :=
  (Tryz.strings_IndexByte digitsB (c.toNat : Int) w).mono fun e w' ⟨he, hw⟩ => ⟨by rw [he]; unfold idxD; simp, hw.symm⟩

set_option maxRecDepth 100000 in
theorem call_idxL (c : UInt8) (w : World) : Calls Tryz.prog 140 #[.string ⟨#[97, 98, 99, 100, 101, 102, 103, 104, 105, 106, 107, 108, 109, 110, 111, 112, 113, 114, 115, 116, 117, 118, 119, 120, 121, 122, 65, 66, 67, 68, 69, 70, 71, 72, 73, 74, 75, 76, 77, 78, 79, 80, 81, 82, 83, 84, 85, 86, 87, 88, 89, 90]⟩, .int .u8 (c.toNat : Int)] w fun e w' => e = .returned (.int .i64 (idxL c)) ∧ w = w' :=
  (Tryz.strings_IndexByte lettersB (c.toNat : Int) w).mono fun e w' ⟨he, hw⟩ => ⟨by rw [he]; unfold idxL; simp, hw.symm⟩

def NumIs (s : ByteArray) (e : Ending) : Prop := e = .returned (.tuple #[.int .i64 (((VP.number 9 s.data.toList).getD 0 : Nat) : Int), .bool (VP.number 9 s.data.toList).isSome])

theorem number_none (s : ByteArray) (h : VP.number 9 s.data.toList = none) : NumIs s (.returned (.tuple #[.int .i64 0, .bool false])) := by
  unfold NumIs; rw [h]; rfl

set_option maxRecDepth 100000 in
theorem number_calls (s : ByteArray) (w : World) : Calls Tryz.prog 138 #[.string s] w fun e w' => NumIs s e ∧ w = w' := by
  have hl := size_eq_length s
  by_cases h0 : s.size = 0
  · have hs : s = ⟨#[]⟩ := by
      obtain ⟨⟨l⟩⟩ := s
      have : l = [] := List.eq_nil_of_length_eq_zero h0
      subst this; rfl
    subst hs
    clear hl h0
    go_enter Tryz.func138, Tryz.ntmps138
    go_wp2
    go_ret2
    exact ⟨number_none _ (by simp [VP.number]), rfl⟩
  · have h0' : 0 < s.size := by omega
    have hne := isEmpty_false s h0'
    clear h0
    by_cases h9 : 9 < s.size
    · have hn : VP.number 9 s.data.toList = none := by unfold VP.number; rw [if_pos]; right; left; omega
      have HN := Lib.hid hn
      clear hl hn
      go_enter Tryz.func138, Tryz.ntmps138
      go_wp2
      go_ret2
      exact ⟨number_none _ HN.out, rfl⟩
    · have h9' : s.size ≤ 9 := by omega
      clear h9
      by_cases hz : 1 < s.size ∧ s[0] = 48
      · obtain ⟨h1, hz⟩ := hz
        have hn : VP.number 9 s.data.toList = none := by
          unfold VP.number; rw [if_pos]; right; right
          refine ⟨by omega, ?_⟩
          have := drop_cons s 0 h0'
          rw [List.drop_zero] at this
          rw [this, hz]; rfl
        have hb : (((s[0].toNat : Nat) : Int) == 48) = true := by rw [hz]; rfl
        have HN := Lib.hid hn
        clear hl hn hz
        go_enter Tryz.func138, Tryz.ntmps138
        go_wp2
        go_ret2
        exact ⟨number_none _ HN.out, rfl⟩
      · have hnn : ¬ (s.data.toList = [] ∨ 9 < s.data.toList.length ∨ (1 < s.data.toList.length ∧ s.data.toList.head? = some 48)) := by
          rintro (e | e | ⟨e1, e2⟩)
          · rw [e, List.length_nil] at hl; omega
          · omega
          · refine hz ⟨by omega, ?_⟩
            have := drop_cons s 0 h0'
            rw [List.drop_zero] at this
            rw [this] at e2
            simpa using e2
        have hn : VP.number 9 s.data.toList = if s.data.toList.all VP.dig then some (VP.val s.data.toList) else none := by
          unfold VP.number; rw [if_neg hnn]
        have HN := Lib.hid hn
        have HL := Lib.hid hl
        clear hn hnn hl
        have hb : 1 < s.size → (((s[0].toNat : Nat) : Int) == 48) = false := fun h => by
          rw [beq_eq_false_iff_ne]
          intro e
          refine hz ⟨h, ?_⟩
          exact UInt8.toNat_inj.1 (by have e48 : (48 : UInt8).toNat = 48 := rfl; omega)
        clear hz
        have hq : 1 < s.size ∨ s.size ≤ 1 := by omega
        rcases hq with h1 | h1
        · have hb' := hb h1
          clear hb
          go_enter Tryz.func138, Tryz.ntmps138
          go_wp2
          go_loop [4, 25] (fun n i => ∃ k : Nat, k ≤ s.size ∧ i = .int .i64 k ∧ n = .int .i64 (VP.val (s.data.toList.take k) : Nat) ∧ Hid ((s.data.toList.take k).all VP.dig = true)) (fun _ i => s.size - (intOf i).toNat)
          case atStart => exact ⟨0, Nat.zero_le _, rfl, rfl, rfl⟩
          case round =>
            obtain ⟨k, hk, rfl, rfl, hall⟩ := hrel
            have hv := VP.val_lt _ hall.out
            have hlen : (s.data.toList.take k).length ≤ 9 := Nat.le_trans (List.length_take_le _ _) (by omega)
            have hpow : 10 ^ (s.data.toList.take k).length ≤ 10 ^ 9 := Nat.pow_le_pow_right (by omega) hlen
            have hv9 : VP.val (s.data.toList.take k) < 1000000000 := Nat.lt_of_lt_of_le hv hpow
            clear hv hlen hpow
            by_cases hlt : k < s.size
            · have hts := Lib.hid (take_snoc s k hlt)
              have hd := idxD_dig s[k]
              have hbt : s[k].toNat < 256 := s[k].toNat_lt
              cases hdg : VP.dig s[k] with
              | true =>
                rw [hdg] at hd
                have hd' : (0 ≤ idxD s[k]) := of_decide_eq_true hd
                have hdd : 48 ≤ s[k].toNat ∧ s[k].toNat ≤ 57 := by unfold VP.dig at hdg; simpa using hdg
                obtain ⟨hd1, hd2⟩ := hdd
                have hdg' := Lib.hid hdg
                clear hd hdg
                go_wp2_with (go_at_call 140; refine (call_idxD _ _).mono ?_; rintro e w' ⟨rfl, rfl⟩)
                go_round
                case rel => exact ⟨k + 1, by omega, by go_num, by rw [hts.out, VP.val_snoc]; go_num, Lib.hid (by rw [hts.out, List.all_append, hall.out]; simp [hdg'.out])⟩
                case measure => simp [intOf]; omega
              | false =>
                rw [hdg] at hd
                have hd' : ¬ (0 ≤ idxD s[k]) := of_decide_eq_false hd
                have hdg' := Lib.hid hdg
                clear hd hdg
                go_wp2_with (go_at_call 140; refine (call_idxD _ _).mono ?_; rintro e w' ⟨rfl, rfl⟩)
                go_ret2
                refine ⟨number_none _ ?_, rfl⟩
                rw [HN.out, if_neg]
                intro ha
                rw [← List.take_append_drop k s.data.toList, drop_cons s k hlt] at ha
                rw [List.all_append, List.all_cons, hdg'.out] at ha
                simp at ha
            · go_wp2
              go_ret2
              have hl := HL.out
              have ht : s.data.toList.take k = s.data.toList := List.take_of_length_le (by omega)
              refine ⟨?_, rfl⟩
              have ha := hall.out
              rw [ht] at ha
              unfold NumIs
              rw [HN.out, ht, if_pos ha]
              rfl
        · clear hb
          go_enter Tryz.func138, Tryz.ntmps138
          go_wp2
          go_loop [4, 25] (fun n i => ∃ k : Nat, k ≤ s.size ∧ i = .int .i64 k ∧ n = .int .i64 (VP.val (s.data.toList.take k) : Nat) ∧ Hid ((s.data.toList.take k).all VP.dig = true)) (fun _ i => s.size - (intOf i).toNat)
          case atStart => exact ⟨0, Nat.zero_le _, rfl, rfl, rfl⟩
          case round =>
            obtain ⟨k, hk, rfl, rfl, hall⟩ := hrel
            have hv := VP.val_lt _ hall.out
            have hlen : (s.data.toList.take k).length ≤ 9 := Nat.le_trans (List.length_take_le _ _) (by omega)
            have hpow : 10 ^ (s.data.toList.take k).length ≤ 10 ^ 9 := Nat.pow_le_pow_right (by omega) hlen
            have hv9 : VP.val (s.data.toList.take k) < 1000000000 := Nat.lt_of_lt_of_le hv hpow
            clear hv hlen hpow
            by_cases hlt : k < s.size
            · have hts := Lib.hid (take_snoc s k hlt)
              have hd := idxD_dig s[k]
              have hbt : s[k].toNat < 256 := s[k].toNat_lt
              cases hdg : VP.dig s[k] with
              | true =>
                rw [hdg] at hd
                have hd' : (0 ≤ idxD s[k]) := of_decide_eq_true hd
                have hdd : 48 ≤ s[k].toNat ∧ s[k].toNat ≤ 57 := by unfold VP.dig at hdg; simpa using hdg
                obtain ⟨hd1, hd2⟩ := hdd
                have hdg' := Lib.hid hdg
                clear hd hdg
                go_wp2_with (go_at_call 140; refine (call_idxD _ _).mono ?_; rintro e w' ⟨rfl, rfl⟩)
                go_round
                case rel => exact ⟨k + 1, by omega, by go_num, by rw [hts.out, VP.val_snoc]; go_num, Lib.hid (by rw [hts.out, List.all_append, hall.out]; simp [hdg'.out])⟩
                case measure => simp [intOf]; omega
              | false =>
                rw [hdg] at hd
                have hd' : ¬ (0 ≤ idxD s[k]) := of_decide_eq_false hd
                have hdg' := Lib.hid hdg
                clear hd hdg
                go_wp2_with (go_at_call 140; refine (call_idxD _ _).mono ?_; rintro e w' ⟨rfl, rfl⟩)
                go_ret2
                refine ⟨number_none _ ?_, rfl⟩
                rw [HN.out, if_neg]
                intro ha
                rw [← List.take_append_drop k s.data.toList, drop_cons s k hlt] at ha
                rw [List.all_append, List.all_cons, hdg'.out] at ha
                simp at ha
            · go_wp2
              go_ret2
              have hl := HL.out
              have ht : s.data.toList.take k = s.data.toList := List.take_of_length_le (by omega)
              refine ⟨?_, rfl⟩
              have ha := hall.out
              rw [ht] at ha
              unfold NumIs
              rw [HN.out, ht, if_pos ha]
              rfl

end Go.Proofs.YtpbbhjifgaeklaaGreatDoor

namespace Go.Proofs.YtpbbhjifgaeklaaGreatDoor
open Go.RowKit

def PrintIs (e : Int) (u r : ByteArray) (w : World) (E : Ending) (w' : World) : Prop := ∃ t : ByteArray, E = .returned (.string t) ∧ t.data.toList = VP.printP e u.data.toList r.data.toList ∧ Below w.heap.size w w'

theorem grow_below (w : World) (k : Nat) (os : Array Obj) : Below w.heap.size w (Go.Sort.grow (w.drewN k) os) := by
  refine ⟨rfl, rfl, rfl, by simp [Go.Sort.grow], fun i hi => ?_⟩
  show (w.heap ++ os)[i]? = _
  rw [Array.getElem?_append_left hi]

def ItoaIs (n : Int) (w : World) (E : Ending) (w' : World) : Prop := ∃ t : ByteArray, E = .returned (.string t) ∧ t.data.toList = Lib.itoa n ∧ t.size ≤ 21 ∧ Below w.heap.size w w'

theorem call_itoa (n : Int) (w : World) (hE : Env w) (h0 : -9223372036854775808 ≤ n) (h1 : n ≤ 9223372036854775807) : Calls Tryz.prog 60 #[.int .i64 n] w (ItoaIs n w) :=
  (Tryz.strconv_Itoa n h0 h1 w hE.2).mono fun e w' ⟨he, k, os, hw⟩ => by
    refine ⟨_, he, rfl, ?_, ?_⟩
    · rw [size_eq_length]; exact Lib.itoa_length_le n h0 h1
    · rw [hw]; exact grow_below w k os

theorem append_data (a b : ByteArray) : (a ++ b).data.toList = a.data.toList ++ b.data.toList := Joins.data_append a b

theorem printP_rev (r : ByteArray) (h : 0 < r.size) : ¬ r.data.toList = [] := fun e => by
  have := size_eq_length r
  rw [e, List.length_nil] at this
  omega

set_option maxRecDepth 100000 in
theorem print_calls (e : Int) (u r : ByteArray) (w : World) (hE : Env w) (h0 : -9223372036854775808 ≤ e) (h1 : e ≤ 9223372036854775807) (hu : u.size ≤ 1000000) (hr : r.size ≤ 1000000) :
    Calls Tryz.prog 59 #[.agg #[.int .i64 e, .string u, .string r]] w (PrintIs e u r w) := by
  have hb0 := below_alloc w (.cells #[.int .i64 e, .string u, .string r] 23)
  have hE1 := hE.below hb0
  clear hE
  have hr' : r.size = 0 ∨ 0 < r.size := by omega
  by_cases he : e = 0
  · subst he
    rcases hr' with hr' | hr'
    · have hz := isEmpty_true r hr'
      have er := eq_empty r hr'
      subst er
      clear hr' hr
      go_enter Tryz.func59, Tryz.ntmps59
      go_wp2
      go_ret
      exact ⟨_, rfl, by simp [VP.printP], hb0⟩
    · have hz := isEmpty_false r hr'
      have Hr := Lib.hid (printP_rev r hr')
      go_enter Tryz.func59, Tryz.ntmps59
      go_wp2
      go_ret
      exact ⟨_, rfl, by rw [append_data, append_data]; simp [VP.printP, Hr.out], hb0⟩
  · have hb : (e != 0) = true := by rw [bne_iff_ne]; exact he
    have HE := Lib.hid he
    clear he
    rcases hr' with hr' | hr'
    · have hz := isEmpty_true r hr'
      have er := eq_empty r hr'
      subst er
      clear hr' hr
      go_enter Tryz.func59, Tryz.ntmps59
      go_wp2_with fail
      refine (call_itoa _ _ hE1 h0 h1).mono ?_
      rintro E w1 ⟨t, rfl, ht, hts, hb1⟩
      have hB := step_below hb0 hb1
      obtain ⟨c0, c1, c2⟩ := box3 hb1
      clear hb1
      have Ht := Lib.hid ht
      clear ht
      go_wp2
      go_ret
      exact ⟨_, rfl, by rw [append_data, append_data, Ht.out]; simp [VP.printP, HE.out], hB⟩
    · have hz := isEmpty_false r hr'
      have Hr := Lib.hid (printP_rev r hr')
      go_enter Tryz.func59, Tryz.ntmps59
      go_wp2_with fail
      refine (call_itoa _ _ hE1 h0 h1).mono ?_
      rintro E w1 ⟨t, rfl, ht, hts, hb1⟩
      have hB := step_below hb0 hb1
      obtain ⟨c0, c1, c2⟩ := box3 hb1
      clear hb1
      have Ht := Lib.hid ht
      clear ht
      go_wp2
      go_ret
      exact ⟨_, rfl, by rw [append_data, append_data, append_data, append_data, Ht.out]; simp [VP.printP, HE.out, Hr.out], hB⟩
end Go.Proofs.YtpbbhjifgaeklaaGreatDoor
