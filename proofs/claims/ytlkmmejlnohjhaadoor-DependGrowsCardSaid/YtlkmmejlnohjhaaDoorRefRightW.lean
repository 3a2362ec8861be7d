/- The reference's Right: the walk. -/
import Derived.Test.YtlkmmejlnohjhaaDoorRefRight
namespace Go.Proofs.YtlkmmejlnohjhaaDoor
open Go.RowKit

def allB (s : ByteArray) (more : List UInt8) : Bool := s.data.toList.all (allP more)
theorem all_calls' (s m : ByteArray) (more : List UInt8) (h : m.data.toList = more) (w : World) (hs : s.size ≤ 1000000) : Calls Tryd.prog 45 #[.string s, .string m] w fun E w' => E = .returned (.bool (allB s more)) ∧ w = w' := by
  subst h
  exact all_calls s m w hs

set_option maxHeartbeats 1000000 in
set_option maxRecDepth 100000 in
theorem refRight_calls (e : Int) (u r : ByteArray) (w : World) (hE : Env w) (h0 : -9223372036854775808 ≤ e) (h1 : e ≤ 9223372036854775807) (hu : u.size ≤ 1000000) (hr : r.size ≤ 1000000) :
    Calls Tryd.prog 18 #[.agg #[.int .i64 e, .string u, .string r]] w (RightIs e u r w) := by
  have hb0 := below_alloc w (.cells #[.int .i64 e, .string u, .string r] 23)
  have hE1 := hE.below hb0
  clear hE
  have hR := Lib.hid (right_ref e u.data.toList r.data.toList)
  have A1 := Lib.hid (fun (m : ByteArray) (h : m.data.toList = moreP e r.data.toList) (w : World) => all_calls' u m _ h w hu)
  have A2 := Lib.hid (fun (m : ByteArray) (h : m.data.toList = [46, 43, 126]) (w : World) => all_calls' r m _ h w hr)
  have P := Lib.hid (fun (w : World) (h : Env w) => refPrint_calls e u r w h h0 h1 hu hr)
  have D1 : 0 < e ∨ e ≤ 0 := by omega
  have D2 : 0 < r.size ∨ r.size = 0 := by omega
  have D3 : inB e 0 999999999 = true ∨ inB e 0 999999999 = false := by cases inB e 0 999999999 <;> simp
  have hm : (0 < e ∧ r.toList.isEmpty = false ∧ Hid (moreP e r.data.toList = ([46, 43, 126] ++ [58]) ++ [45])) ∨ (0 < e ∧ r.toList.isEmpty = true ∧ Hid (moreP e r.data.toList = ([46, 43, 126] ++ [58]) ++ [])) ∨
      (e ≤ 0 ∧ r.toList.isEmpty = false ∧ Hid (moreP e r.data.toList = ([46, 43, 126] ++ []) ++ [45])) ∨ (e ≤ 0 ∧ r.toList.isEmpty = true ∧ Hid (moreP e r.data.toList = ([46, 43, 126] ++ []) ++ [])) := by
    rcases D1 with hp | hp <;> rcases D2 with hz | hz
    · exact .inl ⟨hp, isEmpty_false r hz, Lib.hid (by unfold moreP; rw [if_pos hp, if_neg (printP_rev r hz)])⟩
    · exact .inr (.inl ⟨hp, isEmpty_true r hz, Lib.hid (by unfold moreP; rw [if_pos hp, if_pos (by rw [eq_empty r hz])])⟩)
    · exact .inr (.inr (.inl ⟨hp, isEmpty_false r hz, Lib.hid (by unfold moreP; rw [if_neg (by omega), if_neg (printP_rev r hz)])⟩))
    · exact .inr (.inr (.inr ⟨hp, isEmpty_true r hz, Lib.hid (by unfold moreP; rw [if_neg (by omega), if_pos (by rw [eq_empty r hz])])⟩))
  clear D1 D2
  have D4 : u.size = 0 ∨ 0 < u.size := by omega
  rcases hm with ⟨hp, hzr, hm⟩ | ⟨hp, hzr, hm⟩ | ⟨hp, hzr, hm⟩ | ⟨hp, hzr, hm⟩
  all_goals
    rcases D3 with d3 | d3
    · rcases D4 with hu0 | hu1
      · have hue := isEmpty_true u hu0
        have hst : Hid (VP.startsDig u.data.toList = false) := by rw [eq_empty u hu0]; exact rfl
        go_enter Tryd.func18, Tryd.ntmps18
        go_wp2_with (go_at_call 43; refine (in_calls _ _ _ _).mono ?_; rintro E w' ⟨rfl, rfl⟩)
        go_ret
        refine ⟨ret_bool ?_, hb0⟩
        rw [hR.out, d3, hst.out]
        rfl
      · have hue := isEmpty_false u hu1
        have hst := Lib.hid (startsDig_eq u hu1)
        have d4 : VP.dig u[0] = true ∨ VP.dig u[0] = false := by cases VP.dig u[0] <;> simp
        rcases d4 with d4 | d4
        · have d5 : allB u (moreP e r.data.toList) = true ∨ allB u (moreP e r.data.toList) = false := by cases allB u (moreP e r.data.toList) <;> simp
          have d6 : allB r [46, 43, 126] = true ∨ allB r [46, 43, 126] = false := by cases allB r [46, 43, 126] <;> simp
          go_enter Tryd.func18, Tryd.ntmps18
          go_wp2_with (first | (go_at_call 43; refine (in_calls _ _ _ _).mono ?_; rintro E w' ⟨rfl, rfl⟩) | (go_at_call 44; refine (digit_calls _ _).mono ?_; rintro E w' ⟨rfl, rfl⟩))
          refine (A1.out _ (by rw [hm.out]; first | (rw [append_data, append_data]; rfl) | (rw [append_data]; rfl) | rfl) _).mono ?_
          rintro E w1 ⟨rfl, rfl⟩
          rcases d5 with d5 | d5
          · go_wp2_with fail
            refine (A2.out _ rfl _).mono ?_
            rintro E w1 ⟨rfl, rfl⟩
            rcases d6 with d6 | d6
            · go_wp2_with fail
              refine (P.out _ hE1).mono ?_
              rintro E w1 ⟨t, rfl, ht, hb⟩
              have hB := step_below hb0 hb
              have HT := Lib.hid ht
              clear hb ht
              go_wp2_with fail
              go_ret
              refine ⟨ret_bool ?_, hB⟩
              have e5 : u.data.toList.all (allP (moreP e r.data.toList)) = true := d5
              have e6 : r.data.toList.all (allP [46, 43, 126]) = true := d6
              rw [hR.out, d3, hst.out, d4, e5, e6, ← HT.out, ← size_eq_length]
              simp
              omega
            · go_wp2_with fail
              go_ret
              refine ⟨ret_bool ?_, hb0⟩
              have e5 : u.data.toList.all (allP (moreP e r.data.toList)) = true := d5
              have e6 : r.data.toList.all (allP [46, 43, 126]) = false := d6
              rw [hR.out, d3, hst.out, d4, e5, e6]
              rfl
          · go_wp2_with fail
            go_ret
            refine ⟨ret_bool ?_, hb0⟩
            have e5 : u.data.toList.all (allP (moreP e r.data.toList)) = false := d5
            rw [hR.out, d3, hst.out, d4, e5]
            rfl
        · go_enter Tryd.func18, Tryd.ntmps18
          go_wp2_with (first | (go_at_call 43; refine (in_calls _ _ _ _).mono ?_; rintro E w' ⟨rfl, rfl⟩) | (go_at_call 44; refine (digit_calls _ _).mono ?_; rintro E w' ⟨rfl, rfl⟩))
          go_ret
          refine ⟨ret_bool ?_, hb0⟩
          rw [hR.out, d3, hst.out, d4]
          rfl
    · go_enter Tryd.func18, Tryd.ntmps18
      go_wp2_with (go_at_call 43; refine (in_calls _ _ _ _).mono ?_; rintro E w' ⟨rfl, rfl⟩)
      go_ret
      refine ⟨ret_bool ?_, hb0⟩
      rw [hR.out, d3]
      rfl
end Go.Proofs.YtlkmmejlnohjhaaDoor
