/- What version.Parse calls, in our words: a text cut at its first colon, and at its last dash. -/
import Derived.Test.YtpbbhjifgaeklaaGreatDoorSTK3
namespace Go.Proofs.YtpbbhjifgaeklaaGreatDoor
open Go.RowKit

theorem index_one (c : UInt8) (l : List UInt8) : (VP.cutAt c l = none ∧ Lib.index l [c] = -1) ∨ ∃ a b, VP.cutAt c l = some (a, b) ∧ Lib.index l [c] = a.length := by
  induction l with
  | nil => exact .inl ⟨rfl, rfl⟩
  | cons x l ih =>
    by_cases hx : x = c
    · subst hx
      exact .inr ⟨[], l, by simp [VP.cutAt], by simp [Lib.index, List.isPrefixOf]⟩
    · have hp : List.isPrefixOf [c] (x :: l) = false := by
        simp only [List.isPrefixOf, Bool.and_true]
        simpa using Ne.symm hx
      rcases ih with ⟨h1, h2⟩ | ⟨a, b, h1, h2⟩
      · refine .inl ⟨by simp [VP.cutAt, hx, h1], ?_⟩
        unfold Lib.index
        rw [hp, h2]
        rfl
      · refine .inr ⟨x :: a, b, by simp [VP.cutAt, hx, h1], ?_⟩
        unfold Lib.index
        rw [hp, h2]
        have : ((a.length : Int) == -1) = false := by rw [beq_eq_false_iff_ne]; omega
        rw [this]
        simp

theorem cut_one (c : UInt8) (l : List UInt8) : Lib.cut l [c] = match VP.cutAt c l with | none => (l, [], false) | some (a, b) => (a, b, true) := by
  unfold Lib.cut
  rcases index_one c l with ⟨h1, h2⟩ | ⟨a, b, h1, h2⟩
  · rw [h1, h2, if_neg (by omega)]
  · rw [h1, h2, if_pos (by omega)]
    obtain ⟨e, _⟩ := VP.cutAt_some h1
    subst e
    simp

theorem call_cut_none (s : ByteArray) (w : World) (hE : Env w) (hs : s.size ≤ 1000000) (h : VP.cutAt 58 s.data.toList = none) :
    Calls Tryz.prog 137 #[.string s, .string ⟨#[58]⟩] w fun e w' => e = .returned (.tuple #[.string s, .string ⟨#[]⟩, .bool false]) ∧ Below w.heap.size w w' := by
  obtain ⟨⟨m, hm⟩, _⟩ := hE
  refine (Tryz.strings_Cut s ⟨#[58]⟩ m w (by omega) hm).mono fun e w' ⟨he, n, hw⟩ => ⟨?_, by rw [hw]; exact below_drewN _ _ _⟩
  rw [he]
  have e1 : (⟨#[58]⟩ : ByteArray).data.toList = [58] := rfl
  rw [e1, cut_one, h]

theorem call_cut_some (s : ByteArray) (w : World) (hE : Env w) (hs : s.size ≤ 1000000) (a b : List UInt8) (h : VP.cutAt 58 s.data.toList = some (a, b)) :
    Calls Tryz.prog 137 #[.string s, .string ⟨#[58]⟩] w fun e w' => ∃ A B : ByteArray, e = .returned (.tuple #[.string A, .string B, .bool true]) ∧ A.data.toList = a ∧ B.data.toList = b ∧ Below w.heap.size w w' := by
  obtain ⟨⟨m, hm⟩, _⟩ := hE
  refine (Tryz.strings_Cut s ⟨#[58]⟩ m w (by omega) hm).mono fun e w' ⟨he, n, hw⟩ => ⟨⟨a.toArray⟩, ⟨b.toArray⟩, ?_, rfl, rfl, by rw [hw]; exact below_drewN _ _ _⟩
  rw [he]
  have e1 : (⟨#[58]⟩ : ByteArray).data.toList = [58] := rfl
  rw [e1, cut_one, h]

/-- where the last of a byte stands -/
theorem last_some {s : ByteArray} {a b : List UInt8} (c : UInt8) (h : VP.cutEnd c s.data.toList = some (a, b)) : Lib.lastIndexByte s (c.toNat : Int) = a.length := by
  obtain ⟨e, hn⟩ := VP.cutEnd_some h
  have hl := size_eq_length s
  have at_ : ∀ j, j < s.size → s.data.toList[j]? = some (s.data[j]!) := fun j hj => by
    have : j < s.data.size := hj
    simp [getElem!_pos s.data j this]
  rcases Lib.lastIndexByte_spec s (c.toNat : Int) with ⟨_, h2⟩ | ⟨i, hi, h1, h2, h3⟩
  · have hj : a.length < s.size := by rw [hl, e]; simp
    have h4 := at_ a.length hj
    rw [e] at h4
    simp at h4
    have := h2 a.length hj
    rw [← h4] at this
    exact absurd rfl this
  · rw [h1]
    have hj : a.length < s.size := by rw [hl, e]; simp
    have h4 := at_ a.length hj
    rw [e] at h4
    simp at h4
    have h5 := at_ i hi
    have hc : s.data[i]! = c := UInt8.toNat_inj.1 (by omega)
    rw [hc, e] at h5
    rcases Nat.lt_trichotomy i a.length with h6 | h6 | h6
    · have := h3 a.length h6 hj
      rw [← h4] at this
      exact absurd rfl this
    · omega
    · exfalso
      rw [List.getElem?_append_right (by omega)] at h5
      obtain ⟨k, hk⟩ : ∃ k, i - a.length = k + 1 := ⟨i - a.length - 1, by omega⟩
      rw [hk, List.getElem?_cons_succ] at h5
      exact hn (List.mem_of_getElem? h5)

theorem last_none {s : ByteArray} (c : UInt8) (h : VP.cutEnd c s.data.toList = none) : Lib.lastIndexByte s (c.toNat : Int) = -1 := by
  have hn := (VP.cutEnd_none c s.data.toList).1 h
  rcases Lib.lastIndexByte_spec s (c.toNat : Int) with ⟨h1, _⟩ | ⟨i, hi, _, h2, _⟩
  · exact h1
  · exfalso
    have hc : s.data[i]! = c := UInt8.toNat_inj.1 (by omega)
    have hi' : i < s.data.size := hi
    rw [getElem!_pos s.data i hi'] at hc
    exact hn (by rw [← hc]; simp)

theorem call_last_some (s : ByteArray) (w : World) (hs : s.size ≤ 1000000) (a b : List UInt8) (h : VP.cutEnd 45 s.data.toList = some (a, b)) :
    Calls Tryz.prog 139 #[.string s, .int .u8 45] w fun e w' => e = .returned (.int .i64 (a.length : Int)) ∧ w = w' :=
  (Tryz.strings_LastIndexByte s 45 (by omega) w).mono fun e w' ⟨he, hw⟩ => ⟨by rw [he]; exact congrArg (fun n : Int => Ending.returned (.int .i64 n)) (last_some 45 h), hw.symm⟩
theorem call_last_none (s : ByteArray) (w : World) (hs : s.size ≤ 1000000) (h : VP.cutEnd 45 s.data.toList = none) :
    Calls Tryz.prog 139 #[.string s, .int .u8 45] w fun e w' => e = .returned (.int .i64 (-1)) ∧ w = w' :=
  (Tryz.strings_LastIndexByte s 45 (by omega) w).mono fun e w' ⟨he, hw⟩ => ⟨by rw [he]; exact congrArg (fun n : Int => Ending.returned (.int .i64 n)) (last_none 45 h), hw.symm⟩
end Go.Proofs.YtpbbhjifgaeklaaGreatDoor
