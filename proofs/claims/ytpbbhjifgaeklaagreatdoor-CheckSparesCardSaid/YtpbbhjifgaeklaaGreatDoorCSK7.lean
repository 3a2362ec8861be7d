/- version.part: two parts of versions, by turns what is no digit and numbers: its order is partC. · version.Compare, version.Is: the order of versions. -/
import Derived.Test.YtpbbhjifgaeklaaGreatDoorCSK6
import Derived.Deep.RegionHeld3
namespace Go.Proofs.YtpbbhjifgaeklaaGreatDoor
open Go.RowKit

/-- what is known at the head of either loop -/
structure PartIn (A B : ByteArray) (w0 : World) (n : Nat) (a b : ByteArray) (w : World) : Prop where
  same : VP.partC a.data.toList b.data.toList = VP.partC A.data.toList B.data.toList
  size : a.size + b.size ≤ n
  below : Below w0.heap.size w0 w

def sizesOf (x y : Value) : Nat := match x, y with | .string a, .string b => a.size + b.size | _, _ => 0

theorem size_pos_of_wt (a : ByteArray) (h : VP.wt a.data.toList ≠ 0) : 1 ≤ a.size := by
  rcases Nat.eq_zero_or_pos a.size with h0 | h0
  · have := eq_empty a h0
    subst this
    exact absurd rfl h
  · exact h0
theorem tail_data (a : ByteArray) : (a.extract 1 a.size).data.toList = a.data.toList.tail := by
  rw [← List.drop_one]
  exact Lib.extract_to_end a 1
theorem tail_size (a : ByteArray) : (a.extract 1 a.size).size = a.size - 1 := by simp

/-- the number that stands ahead, and what stands behind it -/
theorem ahead_data {a t : ByteArray} (h : Behind VP.dig a t) : (a.extract 0 (a.size - t.size)).data.toList = a.data.toList.takeWhile VP.dig := by
  rw [Lib.extract_data, List.drop_zero, Nat.sub_zero, size_eq_length, size_eq_length, h]
  exact VP.take_drop VP.dig a.data.toList
theorem ahead_size {a t : ByteArray} (_h : t.size ≤ a.size) : (a.extract 0 (a.size - t.size)).size = a.size - t.size := by simp
theorem behind_data {a t : ByteArray} (h : Behind VP.dig a t) : (a.extract (a.size - t.size) a.size).data.toList = a.data.toList.dropWhile VP.dig := by
  rw [Lib.extract_to_end]
  have h1 := ahead_data h
  have h2 : a.size - t.size = (a.data.toList.takeWhile VP.dig).length := by
    rw [← h1, ← size_eq_length, ahead_size h.size]
  rw [h2]
  exact VP.drop_take VP.dig a.data.toList
theorem bare_data {a t x : ByteArray} (h : Behind VP.dig a t) (hx : Behind (· == 48) (a.extract 0 (a.size - t.size)) x) : x.data.toList = VP.bareN a.data.toList := by
  unfold VP.bareN
  rw [hx, ahead_data h]

theorem part_tells {a b xa xb : ByteArray} (ha : VP.wt a.data.toList = 0) (hb : VP.wt b.data.toList = 0) (ea : xa.data.toList = VP.bareN a.data.toList) (eb : xb.data.toList = VP.bareN b.data.toList) :
    VP.partC a.data.toList b.data.toList = VP.orc (VP.orc (VP.cmpI (xa.size : Int) (xb.size : Int)) (VP.cmpB xa.data.toList xb.data.toList)) (VP.partC (a.data.toList.dropWhile VP.dig) (b.data.toList.dropWhile VP.dig)) := by
  rw [VP.part_round _ _ ha hb, ← ea, ← eb, size_eq_length xa, size_eq_length xb]

theorem part_less {a b ta tb : ByteArray} (hta : Behind VP.dig a ta) (htb : Behind VP.dig b tb) (ha : VP.wt a.data.toList = 0) (hb : VP.wt b.data.toList = 0) (n : Nat) (h0 : 0 < n) (hn : a.size + b.size ≤ n) :
    (a.extract (a.size - ta.size) a.size).size + (b.extract (b.size - tb.size) b.size).size < n := by
  have e1 := size_eq_length (a.extract (a.size - ta.size) a.size)
  have e2 := size_eq_length (b.extract (b.size - tb.size) b.size)
  rw [behind_data hta] at e1
  rw [behind_data htb] at e2
  rw [e1, e2]
  have la := VP.dropWhile_le VP.dig a.data.toList
  have lb := VP.dropWhile_le VP.dig b.data.toList
  rw [size_eq_length a, size_eq_length b] at hn
  rcases Nat.eq_zero_or_pos a.data.toList.length with za | za
  · rcases Nat.eq_zero_or_pos b.data.toList.length with zb | zb
    · omega
    · have := VP.drop_lt _ hb zb
      omega
  · have := VP.drop_lt _ ha za
    omega

set_option maxRecDepth 100000 in
theorem part_calls (A B : ByteArray) (w : World) (hAz : A.size ≤ 1000000) (hBz : B.size ≤ 1000000) :
    Calls Tryz.prog 286 #[.string A, .string B] w fun e w' => e = .returned (.int .i64 (VP.partC A.data.toList B.data.toList)) ∧ Below w.heap.size w w' := by
  go_enter Tryz.func286, Tryz.ntmps286
  go_wp2
  go_loopw [0, 1] (fun x y wr => ∃ a b : ByteArray, x = .string a ∧ y = .string b ∧ PartIn A B w (A.size + B.size) a b wr) (fun x y _ => sizesOf x y)
  case atStart => exact ⟨A, B, rfl, rfl, rfl, Nat.le_refl _, Below.refl _ _⟩
  case round =>
    obtain ⟨A0, B0, rfl, rfl, hP⟩ := hrel
    by_cases h0 : A0.size = 0 ∧ B0.size = 0
    · obtain ⟨ha, hb⟩ := h0
      have ha' := isEmpty_true A0 ha
      have hb' := isEmpty_true B0 hb
      have fin := Lib.hid hP.same
      have hB := hP.below
      have e1 := eq_empty A0 ha
      have e2 := eq_empty B0 hb
      subst e1; subst e2
      clear ha hb hP
      go_wp2
      go_ret
      exact ⟨ret_int (by rw [← fin.out]; exact VP.partC_nil.symm), hB⟩
    · rename_i wr
      obtain ⟨wo, rfl⟩ : ∃ wo : World, wo = wr := ⟨_, rfl⟩
      have h0' : 0 < A0.size + B0.size := by omega
      have hsz := hP.size
      have hz : (0 < A0.size) ∨ (A0.size = 0 ∧ 0 < B0.size) := by omega
      clear h0
      rcases hz with hz | ⟨hz, hz2⟩
      · have hz' := isEmpty_false A0 hz
        clear hz
        go_wp2_with fail
        go_loopw [0, 1] (fun x y wr => ∃ a b : ByteArray, x = .string a ∧ y = .string b ∧ PartIn A B w (A0.size + B0.size) a b wr) (fun x y _ => sizesOf x y)
        case atStart => exact ⟨A0, B0, rfl, rfl, hP.same, Nat.le_refl _, hP.below⟩
        case round =>
          clear hP
          obtain ⟨a, b, rfl, rfl, hP⟩ := hrel
          by_cases hwa : VP.wt a.data.toList = 0
          · have ha0 : (VP.wt a.data.toList != 0) = false := by rw [hwa]; rfl
            by_cases hwb : VP.wt b.data.toList = 0
            · have hb0 : (VP.wt b.data.toList != 0) = false := by rw [hwb]; rfl
              have Hwa := Lib.hid hwa
              have Hwb := Lib.hid hwb
              have hsz2 := hP.size
              have hB := hP.below
              have hsame := Lib.hid (hP.same)
              clear hwa hwb hP
              go_wp2_with (go_at_call 309; refine (weight_calls _ _).mono ?_; rintro e w1 ⟨rfl, rfl⟩)
              refine (call_trimDigits _ _).mono ?_
              rintro e w1 ⟨ta, rfl, hta, hza, hb⟩
              replace hB := step_below hB hb
              clear hb
              go_wp2_with fail
              refine (call_trimDigits _ _).mono ?_
              rintro e w1 ⟨tb, rfl, htb, hzb, hb⟩
              replace hB := step_below hB hb
              clear hb
              have sa := Lib.hid (ahead_size hza)
              have sb := Lib.hid (ahead_size hzb)
              have sa' : (a.extract 0 (a.size - ta.size)).size ≤ a.size := by rw [sa.out]; omega
              have sb' : (b.extract 0 (b.size - tb.size)).size ≤ b.size := by rw [sb.out]; omega
              go_wp2_with fail
              go_region
              go_wp2_with fail
              refine (call_trimNoughts _ _).mono ?_
              rintro e w1 ⟨xa, rfl, hxa, hzxa, hb⟩
              replace hB := step_below hB.drew hb
              clear hb
              go_wp2_with fail
              refine (call_trimNoughts _ _).mono ?_
              rintro e w1 ⟨xb, rfl, hxb, hzxb, hb⟩
              replace hB := step_below hB hb
              clear hb
              go_wp2_with fail
              refine (call_cmp _ _ _).mono ?_
              rintro e w1 ⟨rfl, rfl⟩
              go_wp2_with fail
              refine (call_scmp _ _ _).mono ?_
              rintro e w1 ⟨rfl, rfl⟩
              go_wp2_with fail
              have hor := or2_calls w1.heap.size (VP.cmpI (xa.size : Int) (xb.size : Int)) (VP.cmpB xa.data.toList xb.data.toList) (w1.alloc (.cells #[.int .i64 (VP.cmpI (xa.size : Int) (xb.size : Int)), .int .i64 (VP.cmpB xa.data.toList xb.data.toList)] 3)) (by go_cell) (by go_cell)
              refine hor.mono ?_
              clear hor
              rintro e w2 ⟨rfl, rfl⟩
              replace hB := hB.alloc hB.size (.cells #[.int .i64 (VP.cmpI (xa.size : Int) (xb.size : Int)), .int .i64 (VP.cmpB xa.data.toList xb.data.toList)] 3)
              have tells := part_tells Hwa.out Hwb.out (bare_data hta hxa) (bare_data htb hxb)
              by_cases hn : VP.orc (VP.cmpI (xa.size : Int) (xb.size : Int)) (VP.cmpB xa.data.toList xb.data.toList) = 0
              · have hn' : (VP.orc (VP.cmpI (xa.size : Int) (xb.size : Int)) (VP.cmpB xa.data.toList xb.data.toList) != 0) = false := by rw [hn]; rfl
                rw [hn, VP.orc_zero] at tells
                have fin := Lib.hid (hsame.out.symm.trans tells)
                have less := Lib.hid (part_less hta htb Hwa.out Hwb.out _ h0' hsz2)
                clear hn tells
                go_wp2_with fail
                go_roundw
                case rel => exact ⟨_, _, rfl, rfl, by rw [behind_data hta, behind_data htb]; exact fin.out.symm, Nat.le_trans (Nat.le_of_lt less.out) hsz, hB⟩
                case measure => exact less.out
              · have hn' : (VP.orc (VP.cmpI (xa.size : Int) (xb.size : Int)) (VP.cmpB xa.data.toList xb.data.toList) != 0) = true := by rw [bne_iff_ne]; exact hn
                rw [VP.orc_ne _ hn] at tells
                have fin := Lib.hid (hsame.out.symm.trans tells)
                clear hn tells
                go_wp2_with fail
                go_ret
                exact ⟨ret_int (by rw [fin.out]), hB⟩
            · have hb0 : (VP.wt b.data.toList != 0) = true := by rw [bne_iff_ne]; exact hwb
              have hne : VP.cmpI (VP.wt a.data.toList) (VP.wt b.data.toList) ≠ 0 := fun h => by
                have := VP.cmpI_eq h
                omega
              have hc0 : (VP.cmpI (VP.wt a.data.toList) (VP.wt b.data.toList) != 0) = true := by rw [bne_iff_ne]; exact hne
              have fin := Lib.hid (hP.same.symm.trans (VP.part_wt _ _ hne))
              have hB := hP.below
              clear hwa hwb hne hP
              go_wp2_with (first | (go_at_call 309; refine (weight_calls _ _).mono ?_; rintro e w1 ⟨rfl, rfl⟩) | (go_at_call 285; refine (call_cmp _ _ _).mono ?_; rintro e w1 ⟨rfl, rfl⟩))
              go_ret
              exact ⟨ret_int (by rw [fin.out]), hB⟩
          · have ha0 : (VP.wt a.data.toList != 0) = true := by rw [bne_iff_ne]; exact hwa
            by_cases hne : VP.cmpI (VP.wt a.data.toList) (VP.wt b.data.toList) = 0
            · have hc0 : (VP.cmpI (VP.wt a.data.toList) (VP.wt b.data.toList) != 0) = false := by rw [hne]; rfl
              have nxt := Lib.hid (hP.same.symm.trans (VP.part_next _ _ hne hwa))
              have hab := VP.cmpI_eq hne
              have hsa := size_pos_of_wt a hwa
              have hsb := size_pos_of_wt b (by omega)
              have hB := hP.below
              have hsz := hP.size
              have ea := Lib.hid (tail_data a)
              have eb := Lib.hid (tail_data b)
              have sa := Lib.hid (tail_size a)
              have sb := Lib.hid (tail_size b)
              clear hwa hne hab hP
              go_wp2_with (first | (go_at_call 309; refine (weight_calls _ _).mono ?_; rintro e w1 ⟨rfl, rfl⟩) | (go_at_call 285; refine (call_cmp _ _ _).mono ?_; rintro e w1 ⟨rfl, rfl⟩))
              go_region
              go_roundw
              case rel => (repeat apply Exists.intro); exact ⟨⟨_, _, rfl, rfl, by rw [ea.out, eb.out]; exact nxt.out.symm, by have e1 := sa.out; have e2 := sb.out; omega, hB.drew⟩, rfl⟩
              case measure =>
                have e1 := sa.out
                have e2 := sb.out
                show (a.extract 1 a.size).size + (b.extract 1 b.size).size < a.size + b.size
                omega
            · have hc0 : (VP.cmpI (VP.wt a.data.toList) (VP.wt b.data.toList) != 0) = true := by rw [bne_iff_ne]; exact hne
              have fin := Lib.hid (hP.same.symm.trans (VP.part_wt _ _ hne))
              have hB := hP.below
              clear hwa hne hP
              go_wp2_with (first | (go_at_call 309; refine (weight_calls _ _).mono ?_; rintro e w1 ⟨rfl, rfl⟩) | (go_at_call 285; refine (call_cmp _ _ _).mono ?_; rintro e w1 ⟨rfl, rfl⟩))
              go_ret
              exact ⟨ret_int (by rw [fin.out]), hB⟩
      · have hz' := isEmpty_true A0 hz
        have hz2' := isEmpty_false B0 hz2
        clear hz hz2
        go_wp2_with fail
        go_loopw [0, 1] (fun x y wr => ∃ a b : ByteArray, x = .string a ∧ y = .string b ∧ PartIn A B w (A0.size + B0.size) a b wr) (fun x y _ => sizesOf x y)
        case atStart => exact ⟨A0, B0, rfl, rfl, hP.same, Nat.le_refl _, hP.below⟩
        case round =>
          clear hP
          obtain ⟨a, b, rfl, rfl, hP⟩ := hrel
          by_cases hwa : VP.wt a.data.toList = 0
          · have ha0 : (VP.wt a.data.toList != 0) = false := by rw [hwa]; rfl
            by_cases hwb : VP.wt b.data.toList = 0
            · have hb0 : (VP.wt b.data.toList != 0) = false := by rw [hwb]; rfl
              have Hwa := Lib.hid hwa
              have Hwb := Lib.hid hwb
              have hsz2 := hP.size
              have hB := hP.below
              have hsame := Lib.hid (hP.same)
              clear hwa hwb hP
              go_wp2_with (go_at_call 309; refine (weight_calls _ _).mono ?_; rintro e w1 ⟨rfl, rfl⟩)
              refine (call_trimDigits _ _).mono ?_
              rintro e w1 ⟨ta, rfl, hta, hza, hb⟩
              replace hB := step_below hB hb
              clear hb
              go_wp2_with fail
              refine (call_trimDigits _ _).mono ?_
              rintro e w1 ⟨tb, rfl, htb, hzb, hb⟩
              replace hB := step_below hB hb
              clear hb
              have sa := Lib.hid (ahead_size hza)
              have sb := Lib.hid (ahead_size hzb)
              have sa' : (a.extract 0 (a.size - ta.size)).size ≤ a.size := by rw [sa.out]; omega
              have sb' : (b.extract 0 (b.size - tb.size)).size ≤ b.size := by rw [sb.out]; omega
              go_wp2_with fail
              go_region
              go_wp2_with fail
              refine (call_trimNoughts _ _).mono ?_
              rintro e w1 ⟨xa, rfl, hxa, hzxa, hb⟩
              replace hB := step_below hB.drew hb
              clear hb
              go_wp2_with fail
              refine (call_trimNoughts _ _).mono ?_
              rintro e w1 ⟨xb, rfl, hxb, hzxb, hb⟩
              replace hB := step_below hB hb
              clear hb
              go_wp2_with fail
              refine (call_cmp _ _ _).mono ?_
              rintro e w1 ⟨rfl, rfl⟩
              go_wp2_with fail
              refine (call_scmp _ _ _).mono ?_
              rintro e w1 ⟨rfl, rfl⟩
              go_wp2_with fail
              have hor := or2_calls w1.heap.size (VP.cmpI (xa.size : Int) (xb.size : Int)) (VP.cmpB xa.data.toList xb.data.toList) (w1.alloc (.cells #[.int .i64 (VP.cmpI (xa.size : Int) (xb.size : Int)), .int .i64 (VP.cmpB xa.data.toList xb.data.toList)] 3)) (by go_cell) (by go_cell)
              refine hor.mono ?_
              clear hor
              rintro e w2 ⟨rfl, rfl⟩
              replace hB := hB.alloc hB.size (.cells #[.int .i64 (VP.cmpI (xa.size : Int) (xb.size : Int)), .int .i64 (VP.cmpB xa.data.toList xb.data.toList)] 3)
              have tells := part_tells Hwa.out Hwb.out (bare_data hta hxa) (bare_data htb hxb)
              by_cases hn : VP.orc (VP.cmpI (xa.size : Int) (xb.size : Int)) (VP.cmpB xa.data.toList xb.data.toList) = 0
              · have hn' : (VP.orc (VP.cmpI (xa.size : Int) (xb.size : Int)) (VP.cmpB xa.data.toList xb.data.toList) != 0) = false := by rw [hn]; rfl
                rw [hn, VP.orc_zero] at tells
                have fin := Lib.hid (hsame.out.symm.trans tells)
                have less := Lib.hid (part_less hta htb Hwa.out Hwb.out _ h0' hsz2)
                clear hn tells
                go_wp2_with fail
                go_roundw
                case rel => exact ⟨_, _, rfl, rfl, by rw [behind_data hta, behind_data htb]; exact fin.out.symm, Nat.le_trans (Nat.le_of_lt less.out) hsz, hB⟩
                case measure => exact less.out
              · have hn' : (VP.orc (VP.cmpI (xa.size : Int) (xb.size : Int)) (VP.cmpB xa.data.toList xb.data.toList) != 0) = true := by rw [bne_iff_ne]; exact hn
                rw [VP.orc_ne _ hn] at tells
                have fin := Lib.hid (hsame.out.symm.trans tells)
                clear hn tells
                go_wp2_with fail
                go_ret
                exact ⟨ret_int (by rw [fin.out]), hB⟩
            · have hb0 : (VP.wt b.data.toList != 0) = true := by rw [bne_iff_ne]; exact hwb
              have hne : VP.cmpI (VP.wt a.data.toList) (VP.wt b.data.toList) ≠ 0 := fun h => by
                have := VP.cmpI_eq h
                omega
              have hc0 : (VP.cmpI (VP.wt a.data.toList) (VP.wt b.data.toList) != 0) = true := by rw [bne_iff_ne]; exact hne
              have fin := Lib.hid (hP.same.symm.trans (VP.part_wt _ _ hne))
              have hB := hP.below
              clear hwa hwb hne hP
              go_wp2_with (first | (go_at_call 309; refine (weight_calls _ _).mono ?_; rintro e w1 ⟨rfl, rfl⟩) | (go_at_call 285; refine (call_cmp _ _ _).mono ?_; rintro e w1 ⟨rfl, rfl⟩))
              go_ret
              exact ⟨ret_int (by rw [fin.out]), hB⟩
          · have ha0 : (VP.wt a.data.toList != 0) = true := by rw [bne_iff_ne]; exact hwa
            by_cases hne : VP.cmpI (VP.wt a.data.toList) (VP.wt b.data.toList) = 0
            · have hc0 : (VP.cmpI (VP.wt a.data.toList) (VP.wt b.data.toList) != 0) = false := by rw [hne]; rfl
              have nxt := Lib.hid (hP.same.symm.trans (VP.part_next _ _ hne hwa))
              have hab := VP.cmpI_eq hne
              have hsa := size_pos_of_wt a hwa
              have hsb := size_pos_of_wt b (by omega)
              have hB := hP.below
              have hsz := hP.size
              have ea := Lib.hid (tail_data a)
              have eb := Lib.hid (tail_data b)
              have sa := Lib.hid (tail_size a)
              have sb := Lib.hid (tail_size b)
              clear hwa hne hab hP
              go_wp2_with (first | (go_at_call 309; refine (weight_calls _ _).mono ?_; rintro e w1 ⟨rfl, rfl⟩) | (go_at_call 285; refine (call_cmp _ _ _).mono ?_; rintro e w1 ⟨rfl, rfl⟩))
              go_region
              go_roundw
              case rel => (repeat apply Exists.intro); exact ⟨⟨_, _, rfl, rfl, by rw [ea.out, eb.out]; exact nxt.out.symm, by have e1 := sa.out; have e2 := sb.out; omega, hB.drew⟩, rfl⟩
              case measure =>
                have e1 := sa.out
                have e2 := sb.out
                show (a.extract 1 a.size).size + (b.extract 1 b.size).size < a.size + b.size
                omega
            · have hc0 : (VP.cmpI (VP.wt a.data.toList) (VP.wt b.data.toList) != 0) = true := by rw [bne_iff_ne]; exact hne
              have fin := Lib.hid (hP.same.symm.trans (VP.part_wt _ _ hne))
              have hB := hP.below
              clear hwa hne hP
              go_wp2_with (first | (go_at_call 309; refine (weight_calls _ _).mono ?_; rintro e w1 ⟨rfl, rfl⟩) | (go_at_call 285; refine (call_cmp _ _ _).mono ?_; rintro e w1 ⟨rfl, rfl⟩))
              go_ret
              exact ⟨ret_int (by rw [fin.out]), hB⟩
end Go.Proofs.YtpbbhjifgaeklaaGreatDoor

namespace Go.Proofs.YtpbbhjifgaeklaaGreatDoor
open Go.RowKit

set_option maxRecDepth 100000 in
theorem compare_calls (e1 : Int) (u1 r1 : ByteArray) (e2 : Int) (u2 r2 : ByteArray) (w : World) (hu1 : u1.size ≤ 1000000) (hr1 : r1.size ≤ 1000000) (hu2 : u2.size ≤ 1000000) (hr2 : r2.size ≤ 1000000) :
    Calls Tryz.prog 229 #[.agg #[.int .i64 e1, .string u1, .string r1], .agg #[.int .i64 e2, .string u2, .string r2]] w
      fun e w' => e = .returned (.int .i64 (VP.cmpV e1 u1.data.toList r1.data.toList e2 u2.data.toList r2.data.toList)) ∧ Below w.heap.size w w' := by
  go_enter Tryz.func229, Tryz.ntmps229
  go_wp2_with fail
  go_region_held3 (fun w' => w'.cell? ⟨w.heap.size, 0, none⟩ = some (.int .i64 e1) ∧ w'.cell? ⟨w.heap.size, 1, none⟩ = some (.string u1) ∧ w'.cell? ⟨w.heap.size, 2, none⟩ = some (.string r1) ∧
      w'.cell? ⟨w.heap.size + 1, 0, none⟩ = some (.int .i64 e2) ∧ w'.cell? ⟨w.heap.size + 1, 1, none⟩ = some (.string u2) ∧ w'.cell? ⟨w.heap.size + 1, 2, none⟩ = some (.string r2) ∧ Below w.heap.size w w')
    ((first | assumption | exact ⟨by go_cell, by go_cell, by go_cell, by go_cell, by go_cell, by go_cell, (((Below.refl _ _).alloc (Nat.le_refl _) _).alloc (by simp) _).drew⟩ | (obtain ⟨h1, h2, h3, h4, h5, h6, h7⟩ := ‹_ ∧ _ ∧ _ ∧ _ ∧ _ ∧ _ ∧ _›; first | exact ⟨kept hb h1, kept hb h2, kept hb h3, kept hb h4, kept hb h5, kept hb h6, step_below h7 hb⟩ | exact ⟨kept (below_alloc _ _) h1, kept (below_alloc _ _) h2, kept (below_alloc _ _) h3, kept (below_alloc _ _) h4, kept (below_alloc _ _) h5, kept (below_alloc _ _) h6, step_below h7 (below_alloc _ _)⟩)))
    (first | (go_at_call 285; refine (call_cmp _ _ _).mono ?_; rintro e w' ⟨rfl, rfl⟩) | (go_at_call 286; refine (part_calls _ _ _ ?_ ?_).mono ?_; assumption; assumption; rintro e w' ⟨rfl, hb⟩) | (go_at_call 284; refine (or3_calls _ (VP.cmpI e1 e2) (VP.partC u1.data.toList u2.data.toList) (VP.partC r1.data.toList r2.data.toList) _ (by go_cell) (by go_cell) (by go_cell)).mono ?_; rintro e w' ⟨rfl, rfl⟩))
  go_wp2
  go_ret
  obtain ⟨_, _, _, _, _, _, h7⟩ := ‹_ ∧ _ ∧ _ ∧ _ ∧ _ ∧ _ ∧ _›
  exact ⟨rfl, h7⟩

def IsIs (op n : Int) (w : World) (e : Ending) (w' : World) : Prop := e = .returned (.bool (VP.isOp op n)) ∧ Below w.heap.size w w'

set_option maxRecDepth 100000 in
theorem is_calls (e1 : Int) (u1 r1 : ByteArray) (op : Int) (e2 : Int) (u2 r2 : ByteArray) (w : World) (hu1 : u1.size ≤ 1000000) (hr1 : r1.size ≤ 1000000) (hu2 : u2.size ≤ 1000000) (hr2 : r2.size ≤ 1000000) :
    Calls Tryz.prog 168 #[.agg #[.int .i64 e1, .string u1, .string r1], .int .i64 op, .agg #[.int .i64 e2, .string u2, .string r2]] w
      (IsIs op (VP.cmpV e1 u1.data.toList r1.data.toList e2 u2.data.toList r2.data.toList) w) := by
  have H := Lib.hid (compare_calls e1 u1 r1 e2 u2 r2 · hu1 hr1 hu2 hr2)
  generalize VP.cmpV e1 u1.data.toList r1.data.toList e2 u2.data.toList r2.data.toList = n at H ⊢
  have hop : op = 0 ∨ op = 1 ∨ op = 2 ∨ op = 3 ∨ op = 4 ∨ op = 5 ∨ (op ≠ 0 ∧ op ≠ 1 ∧ op ≠ 2 ∧ op ≠ 3 ∧ op ≠ 4 ∧ op ≠ 5) := by omega
  clear hu1 hr1 hu2 hr2
  rcases hop with rfl | rfl | rfl | rfl | rfl | rfl | ⟨h0, h1, h2, h3, h4, h5⟩
  case inr.inr.inr.inr.inr.inr =>
    have b0 : (op == 0) = false := by rw [beq_eq_false_iff_ne]; exact h0
    have b1 : (op == 1) = false := by rw [beq_eq_false_iff_ne]; exact h1
    have b2 : (op == 2) = false := by rw [beq_eq_false_iff_ne]; exact h2
    have b3 : (op == 3) = false := by rw [beq_eq_false_iff_ne]; exact h3
    have b4 : (op == 4) = false := by rw [beq_eq_false_iff_ne]; exact h4
    have b5 : (op == 5) = false := by rw [beq_eq_false_iff_ne]; exact h5
    have F : Hid (VP.isOp op n = false) := by unfold VP.isOp; rw [if_neg h0, if_neg h1, if_neg h2, if_neg h3, if_neg h4, if_neg h5]; exact rfl
    clear h0 h1 h2 h3 h4 h5
    go_enter Tryz.func168, Tryz.ntmps168
    go_wp2_with fail
    refine (H.out _).mono ?_
    rintro e w1 ⟨rfl, hb⟩
    have hB := step_below (step_below (below_alloc w (.cells #[.int .i64 e1, .string u1, .string r1] 23)) (below_alloc _ (.cells #[.int .i64 e2, .string u2, .string r2] 23))) hb
    clear hb
    go_wp2
    go_ret
    exact ⟨ret_bool F.out.symm, hB⟩
  all_goals
    go_enter Tryz.func168, Tryz.ntmps168
    go_wp2_with fail
    refine (H.out _).mono ?_
    rintro e w1 ⟨rfl, hb⟩
    have hB := step_below (step_below (below_alloc w (.cells #[.int .i64 e1, .string u1, .string r1] 23)) (below_alloc _ (.cells #[.int .i64 e2, .string u2, .string r2] 23))) hb
    clear hb
    go_wp2
    go_ret
    exact ⟨ret_bool rfl, hB⟩
end Go.Proofs.YtpbbhjifgaeklaaGreatDoor
