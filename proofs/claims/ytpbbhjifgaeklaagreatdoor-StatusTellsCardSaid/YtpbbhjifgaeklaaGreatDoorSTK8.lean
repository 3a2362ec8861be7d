/- The reference's Right: the walk. · The reference's Parse: the version that a text is, or that it is none. -/
import Derived.Test.YtpbbhjifgaeklaaGreatDoorSTK7
namespace Go.Proofs.YtpbbhjifgaeklaaGreatDoor
open Go.RowKit

def allB (s : ByteArray) (more : List UInt8) : Bool := s.data.toList.all (allP more)
theorem all_calls' (s m : ByteArray) (more : List UInt8) (h : m.data.toList = more) (w : World) (hs : s.size ≤ 1000000) : Calls Tryz.prog 146 #[.string s, .string m] w fun E w' => E = .returned (.bool (allB s more)) ∧ w = w' := by
  subst h
  exact all_calls s m w hs

set_option maxHeartbeats 1000000 in
set_option maxRecDepth 100000 in
theorem refRight_calls (e : Int) (u r : ByteArray) (w : World) (hE : Env w) (h0 : -9223372036854775808 ≤ e) (h1 : e ≤ 9223372036854775807) (hu : u.size ≤ 1000000) (hr : r.size ≤ 1000000) :
    Calls Tryz.prog 78 #[.agg #[.int .i64 e, .string u, .string r]] w (RightIs e u r w) := by
  have hb0 := below_alloc w (.cells #[.int .i64 e, .string u, .string r] 23)
  have hE1 := hE.below hb0
  clear hE
  have hR := Lib.hid (right_ref e u.data.toList r.data.toList)
  have A1 := Lib.hid (fun (m : ByteArray) (h : m.data.toList = moreP e r.data.toList) (w : World) => all_calls' u m _ h w hu)
  have A2 := Lib.hid (fun (m : ByteArray) (h : m.data.toList = [46, 43, 126]) (w : World) => all_calls' r m _ h w hr)
  have P := Lib.hid (fun (w : World) (h : Env w) => refPrint_calls e u r w h h0 h1 hu hr)
  have D1 : 0 < e ∨ e ≤ 0 := by omega
  have D2 : 0 < r.size ∨ r.size = 0 := by omega
  have D3 : inB e 0 999999999 = true ∨ inB e 0 999999999 = false := by cases inB e 0 999999999 <;> simp
  have hm : (0 < e ∧ r.toList.isEmpty = false ∧ Hid (moreP e r.data.toList = ([46, 43, 126] ++ [58]) ++ [45])) ∨ (0 < e ∧ r.toList.isEmpty = true ∧ Hid (moreP e r.data.toList = ([46, 43, 126] ++ [58]) ++ [])) ∨
      (e ≤ 0 ∧ r.toList.isEmpty = false ∧ Hid (moreP e r.data.toList = ([46, 43, 126] ++ []) ++ [45])) ∨ (e ≤ 0 ∧ r.toList.isEmpty = true ∧ Hid (moreP e r.data.toList = ([46, 43, 126] ++ []) ++ [])) := by
    rcases D1 with hp | hp <;> rcases D2 with hz | hz
    · exact .inl ⟨hp, isEmpty_false r hz, Lib.hid (by unfold moreP; rw [if_pos hp, if_neg (printP_rev r hz)])⟩
    · exact .inr (.inl ⟨hp, isEmpty_true r hz, Lib.hid (by unfold moreP; rw [if_pos hp, if_pos (by rw [eq_empty r hz])])⟩)
    · exact .inr (.inr (.inl ⟨hp, isEmpty_false r hz, Lib.hid (by unfold moreP; rw [if_neg (by omega), if_neg (printP_rev r hz)])⟩))
    · exact .inr (.inr (.inr ⟨hp, isEmpty_true r hz, Lib.hid (by unfold moreP; rw [if_neg (by omega), if_pos (by rw [eq_empty r hz])])⟩))
  clear D1 D2
  have D4 : u.size = 0 ∨ 0 < u.size := by omega
  rcases hm with ⟨hp, hzr, hm⟩ | ⟨hp, hzr, hm⟩ | ⟨hp, hzr, hm⟩ | ⟨hp, hzr, hm⟩
  all_goals
    rcases D3 with d3 | d3
    · rcases D4 with hu0 | hu1
      · have hue := isEmpty_true u hu0
        have hst : Hid (VP.startsDig u.data.toList = false) := by rw [eq_empty u hu0]; exact rfl
        go_enter Tryz.func78, Tryz.ntmps78
        go_wp2_with (go_at_call 75; refine (in_calls _ _ _ _).mono ?_; rintro E w' ⟨rfl, rfl⟩)
        go_ret
        refine ⟨ret_bool ?_, hb0⟩
        rw [hR.out, d3, hst.out]
        rfl
      · have hue := isEmpty_false u hu1
        have hst := Lib.hid (startsDig_eq u hu1)
        have d4 : VP.dig u[0] = true ∨ VP.dig u[0] = false := by cases VP.dig u[0] <;> simp
        rcases d4 with d4 | d4
        · have d5 : allB u (moreP e r.data.toList) = true ∨ allB u (moreP e r.data.toList) = false := by cases allB u (moreP e r.data.toList) <;> simp
          have d6 : allB r [46, 43, 126] = true ∨ allB r [46, 43, 126] = false := by cases allB r [46, 43, 126] <;> simp
          go_enter Tryz.func78, Tryz.ntmps78
          go_wp2_with (first | (go_at_call 75; refine (in_calls _ _ _ _).mono ?_; rintro E w' ⟨rfl, rfl⟩) | (go_at_call 145; refine (digit_calls _ _).mono ?_; rintro E w' ⟨rfl, rfl⟩))
          refine (A1.out _ (by rw [hm.out]; first | (rw [append_data, append_data]; rfl) | (rw [append_data]; rfl) | rfl) _).mono ?_
          rintro E w1 ⟨rfl, rfl⟩
          rcases d5 with d5 | d5
          · go_wp2_with fail
            refine (A2.out _ rfl _).mono ?_
            rintro E w1 ⟨rfl, rfl⟩
            rcases d6 with d6 | d6
            · go_wp2_with fail
              refine (P.out _ hE1).mono ?_
              rintro E w1 ⟨t, rfl, ht, hb⟩
              have hB := step_below hb0 hb
              have HT := Lib.hid ht
              clear hb ht
              go_wp2_with fail
              go_ret
              refine ⟨ret_bool ?_, hB⟩
              have e5 : u.data.toList.all (allP (moreP e r.data.toList)) = true := d5
              have e6 : r.data.toList.all (allP [46, 43, 126]) = true := d6
              rw [hR.out, d3, hst.out, d4, e5, e6, ← HT.out, ← size_eq_length]
              simp
              omega
            · go_wp2_with fail
              go_ret
              refine ⟨ret_bool ?_, hb0⟩
              have e5 : u.data.toList.all (allP (moreP e r.data.toList)) = true := d5
              have e6 : r.data.toList.all (allP [46, 43, 126]) = false := d6
              rw [hR.out, d3, hst.out, d4, e5, e6]
              rfl
          · go_wp2_with fail
            go_ret
            refine ⟨ret_bool ?_, hb0⟩
            have e5 : u.data.toList.all (allP (moreP e r.data.toList)) = false := d5
            rw [hR.out, d3, hst.out, d4, e5]
            rfl
        · go_enter Tryz.func78, Tryz.ntmps78
          go_wp2_with (first | (go_at_call 75; refine (in_calls _ _ _ _).mono ?_; rintro E w' ⟨rfl, rfl⟩) | (go_at_call 145; refine (digit_calls _ _).mono ?_; rintro E w' ⟨rfl, rfl⟩))
          go_ret
          refine ⟨ret_bool ?_, hb0⟩
          rw [hR.out, d3, hst.out, d4]
          rfl
    · go_enter Tryz.func78, Tryz.ntmps78
      go_wp2_with (go_at_call 75; refine (in_calls _ _ _ _).mono ?_; rintro E w' ⟨rfl, rfl⟩)
      go_ret
      refine ⟨ret_bool ?_, hb0⟩
      rw [hR.out, d3]
      rfl
end Go.Proofs.YtpbbhjifgaeklaaGreatDoor

namespace Go.Proofs.YtpbbhjifgaeklaaGreatDoor
open Go.RowKit

/-- no version, and ErrForm -/
def noVersionR : Value := .tuple #[.agg #[.int .i64 0, .string ⟨#[]⟩, .string ⟨#[]⟩], .int .i64 3]

def RefParseIs (s : ByteArray) (w : World) (E : Ending) (w' : World) : Prop :=
  Below w.heap.size w w' ∧ ((VP.parseP s.data.toList = none ∧ E = .returned noVersionR) ∨
    ∃ (e : Int) (u r : ByteArray), VP.parseP s.data.toList = some (e, u.data.toList, r.data.toList) ∧ E = .returned (.tuple #[.agg #[.int .i64 e, .string u, .string r], .int .i64 0]))

theorem indexB_none {c : UInt8} {l : List UInt8} (h : VP.cutAt c l = none) : Lib.indexByte l c = -1 := by
  have hn := (VP.cutAt_none c l).1 h
  have := indexByte_mem l c
  have h2 : l.contains c = false := by simpa using hn
  rw [h2] at this
  have h3 := of_decide_eq_false this
  have h4 := Lib.indexByte_ge l c
  omega

theorem indexB_some {c : UInt8} {l a b : List UInt8} (h : VP.cutAt c l = some (a, b)) : Lib.indexByte l c = a.length := by
  induction l generalizing a b with
  | nil => simp [VP.cutAt] at h
  | cons x l ih =>
    by_cases hx : x = c
    · subst hx
      simp [VP.cutAt] at h
      obtain ⟨rfl, rfl⟩ := h
      simp [Lib.indexByte]
    · simp [VP.cutAt, hx] at h
      obtain ⟨a', h, rfl⟩ := h
      have := ih h
      simp [Lib.indexByte, hx, this]

/-- the result's cells (at b, noughts) and the version's (at b + 1) -/
structure Two (b : Nat) (w : World) (e : Int) (u r : ByteArray) : Prop where
  k0 : w.cell? ⟨b, 0, none⟩ = some (.int .i64 0)
  k1 : w.cell? ⟨b, 1, none⟩ = some (.string ⟨#[]⟩)
  k2 : w.cell? ⟨b, 2, none⟩ = some (.string ⟨#[]⟩)
  f0 : w.frozen? ⟨b, 0, none⟩ = false
  f1 : w.frozen? ⟨b, 1, none⟩ = false
  f2 : w.frozen? ⟨b, 2, none⟩ = false
  c0 : w.cell? ⟨b + 1, 0, none⟩ = some (.int .i64 e)
  c1 : w.cell? ⟨b + 1, 1, none⟩ = some (.string u)
  c2 : w.cell? ⟨b + 1, 2, none⟩ = some (.string r)
  g0 : w.frozen? ⟨b + 1, 0, none⟩ = false
  g1 : w.frozen? ⟨b + 1, 1, none⟩ = false
  g2 : w.frozen? ⟨b + 1, 2, none⟩ = false

theorem Two.step {b : Nat} {w w1 : World} {e : Int} {u r : ByteArray} (h : Two b w e u r) (hb : Below w.heap.size w w1) : Two b w1 e u r :=
  have hz0 : b < w.heap.size := cell_lt h.k0
  have hz1 : b + 1 < w.heap.size := cell_lt h.c0
  ⟨kept hb h.k0, kept hb h.k1, kept hb h.k2, keptf hb hz0 h.f0, keptf hb hz0 h.f1, keptf hb hz0 h.f2,
   kept hb h.c0, kept hb h.c1, kept hb h.c2, keptf hb hz1 h.g0, keptf hb hz1 h.g1, keptf hb hz1 h.g2⟩
end Go.Proofs.YtpbbhjifgaeklaaGreatDoor
