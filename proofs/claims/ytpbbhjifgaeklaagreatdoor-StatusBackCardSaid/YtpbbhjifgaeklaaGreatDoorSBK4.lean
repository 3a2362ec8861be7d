/- version.Print: how a version is written. -/
import Derived.Test.YtpbbhjifgaeklaaGreatDoorSBK3
namespace Go.Proofs.YtpbbhjifgaeklaaGreatDoor
open Go.RowKit

def PrintIs (e : Int) (u r : ByteArray) (w : World) (E : Ending) (w' : World) : Prop := ∃ t : ByteArray, E = .returned (.string t) ∧ t.data.toList = VP.printP e u.data.toList r.data.toList ∧ Below w.heap.size w w'

theorem grow_below (w : World) (k : Nat) (os : Array Obj) : Below w.heap.size w (Go.Sort.grow (w.drewN k) os) := by
  refine ⟨rfl, rfl, rfl, by simp [Go.Sort.grow], fun i hi => ?_⟩
  show (w.heap ++ os)[i]? = _
  rw [Array.getElem?_append_left hi]

def ItoaIs (n : Int) (w : World) (E : Ending) (w' : World) : Prop := ∃ t : ByteArray, E = .returned (.string t) ∧ t.data.toList = Lib.itoa n ∧ t.size ≤ 21 ∧ Below w.heap.size w w'

theorem call_itoa (n : Int) (w : World) (hE : Env w) (h0 : -9223372036854775808 ≤ n) (h1 : n ≤ 9223372036854775807) : Calls Tryz.prog 60 #[.int .i64 n] w (ItoaIs n w) :=
  (Tryz.strconv_Itoa n h0 h1 w hE.2).mono fun e w' ⟨he, k, os, hw⟩ => by
    refine ⟨_, he, rfl, ?_, ?_⟩
    · rw [size_eq_length]; exact Lib.itoa_length_le n h0 h1
    · rw [hw]; exact grow_below w k os

theorem append_data (a b : ByteArray) : (a ++ b).data.toList = a.data.toList ++ b.data.toList := Joins.data_append a b

theorem printP_rev (r : ByteArray) (h : 0 < r.size) : ¬ r.data.toList = [] := fun e => by
  have := size_eq_length r
  rw [e, List.length_nil] at this
  omega

set_option maxRecDepth 100000 in
theorem print_calls (e : Int) (u r : ByteArray) (w : World) (hE : Env w) (h0 : -9223372036854775808 ≤ e) (h1 : e ≤ 9223372036854775807) (hu : u.size ≤ 1000000) (hr : r.size ≤ 1000000) :
    Calls Tryz.prog 59 #[.agg #[.int .i64 e, .string u, .string r]] w (PrintIs e u r w) := by
  have hb0 := below_alloc w (.cells #[.int .i64 e, .string u, .string r] 23)
  have hE1 := hE.below hb0
  clear hE
  have hr' : r.size = 0 ∨ 0 < r.size := by omega
  by_cases he : e = 0
  · subst he
    rcases hr' with hr' | hr'
    · have hz := isEmpty_true r hr'
      have er := eq_empty r hr'
      subst er
      clear hr' hr
      go_enter Tryz.func59, Tryz.ntmps59
      go_wp2
      go_ret
      exact ⟨_, rfl, by simp [VP.printP], hb0⟩
    · have hz := isEmpty_false r hr'
      have Hr := Lib.hid (printP_rev r hr')
      go_enter Tryz.func59, Tryz.ntmps59
      go_wp2
      go_ret
      exact ⟨_, rfl, by rw [append_data, append_data]; simp [VP.printP, Hr.out], hb0⟩
  · have hb : (e != 0) = true := by rw [bne_iff_ne]; exact he
    have HE := Lib.hid he
    clear he
    rcases hr' with hr' | hr'
    · have hz := isEmpty_true r hr'
      have er := eq_empty r hr'
      subst er
      clear hr' hr
      go_enter Tryz.func59, Tryz.ntmps59
      go_wp2_with fail
      refine (call_itoa _ _ hE1 h0 h1).mono ?_
      rintro E w1 ⟨t, rfl, ht, hts, hb1⟩
      have hB := step_below hb0 hb1
      obtain ⟨c0, c1, c2⟩ := box3 hb1
      clear hb1
      have Ht := Lib.hid ht
      clear ht
      go_wp2
      go_ret
      exact ⟨_, rfl, by rw [append_data, append_data, Ht.out]; simp [VP.printP, HE.out], hB⟩
    · have hz := isEmpty_false r hr'
      have Hr := Lib.hid (printP_rev r hr')
      go_enter Tryz.func59, Tryz.ntmps59
      go_wp2_with fail
      refine (call_itoa _ _ hE1 h0 h1).mono ?_
      rintro E w1 ⟨t, rfl, ht, hts, hb1⟩
      have hB := step_below hb0 hb1
      obtain ⟨c0, c1, c2⟩ := box3 hb1
      clear hb1
      have Ht := Lib.hid ht
      clear ht
      go_wp2
      go_ret
      exact ⟨_, rfl, by rw [append_data, append_data, append_data, append_data, Ht.out]; simp [VP.printP, HE.out, Hr.out], hB⟩
end Go.Proofs.YtpbbhjifgaeklaaGreatDoor
