/- depend.Name, and the reference's PackName: may a package be called so. -/
import Derived.Test.YtlkmmejlnohjhaaDoorDepMem
namespace Go.Proofs.YtlkmmejlnohjhaaDoor
open Go.RowKit

theorem bne_of_true {a b : Int} (h : (a == b) = true) : (a != b) = false := by rw [bne, h]; rfl
theorem bne_of_false {a b : Int} (h : (a == b) = false) : (a != b) = true := by rw [bne, h]; rfl

/-- a name's bytes, from left to right -/
def goodN : List UInt8 → Bool
  | [] => true
  | c :: r => VP.nm0 c && r.all VP.nm1

theorem nm0_nm1 (c : UInt8) (h : VP.nm0 c = true) : VP.nm1 c = true := by unfold VP.nm1; rw [h]; rfl

theorem nameP_good (l : List UInt8) : VP.nameP l = (inB (l.length : Int) 2 24 && goodN l) := by
  unfold VP.nameP inB
  have e1 : decide ((2 : Int) ≤ (l.length : Int)) = decide (2 ≤ l.length) := decide_eq_decide.2 (by omega)
  have e2 : decide ((l.length : Int) ≤ 24) = decide (l.length ≤ 24) := decide_eq_decide.2 (by omega)
  rw [e1, e2]
  cases l with
  | nil => rfl
  | cons c r =>
    rw [List.all_cons, Bool.and_assoc]
    congr 1
    show (VP.nm0 c && (VP.nm1 c && r.all VP.nm1)) = (VP.nm0 c && r.all VP.nm1)
    cases hc : VP.nm0 c with
    | false => rfl
    | true => rw [nm0_nm1 c hc]; rfl

theorem goodN_append {a : List UInt8} (ha : a ≠ []) (b : List UInt8) : goodN (a ++ b) = (goodN a && b.all VP.nm1) := by
  cases a with
  | nil => exact absurd rfl ha
  | cons c r =>
    show (VP.nm0 c && (r ++ b).all VP.nm1) = ((VP.nm0 c && r.all VP.nm1) && b.all VP.nm1)
    rw [List.all_append, Bool.and_assoc]

def firstL : List UInt8 := [97, 98, 99, 100, 101, 102, 103, 104, 105, 106, 107, 108, 109, 110, 111, 112, 113, 114, 115, 116, 117, 118, 119, 120, 121, 122, 48, 49, 50, 51, 52, 53, 54, 55, 56, 57]
def firstS : ByteArray := ⟨#[97, 98, 99, 100, 101, 102, 103, 104, 105, 106, 107, 108, 109, 110, 111, 112, 113, 114, 115, 116, 117, 118, 119, 120, 121, 122, 48, 49, 50, 51, 52, 53, 54, 55, 56, 57]⟩
def idxN (c : UInt8) : Int := Lib.indexByte firstL c
theorem idxN_fin : ∀ i : Fin 256, decide (0 ≤ idxN (UInt8.ofNat i.val)) = VP.nm0 (UInt8.ofNat i.val) := by decide +kernel
theorem idxN_nm0 (c : UInt8) : decide (0 ≤ idxN c) = VP.nm0 c := by
  have := idxN_fin ⟨c.toNat, c.toNat_lt⟩
  simpa using this
set_option maxRecDepth 100000 in
theorem call_idxN (c : UInt8) (w : World) : Calls Tryd.prog 29 #[.string ⟨#[97, 98, 99, 100, 101, 102, 103, 104, 105, 106, 107, 108, 109, 110, 111, 112, 113, 114, 115, 116, 117, 118, 119, 120, 121, 122, 48, 49, 50, 51, 52, 53, 54, 55, 56, 57]⟩, .int .u8 (c.toNat : Int)] w fun e w' => e = .returned (.int .i64 (idxN c)) ∧ w = w' :=
  (Tryd.strings_IndexByte firstS (c.toNat : Int) w).mono fun e w' ⟨he, hw⟩ => ⟨by rw [he]; unfold idxN; simp [firstS, firstL], hw.symm⟩

def cutN : List UInt8 := firstL ++ [43, 45, 46]
theorem cutN_ok : ∀ i : Fin 256, cutN.contains (UInt8.ofNat i.val) = VP.nm1 (UInt8.ofNat i.val) := by decide +kernel
theorem cutN_asc : (cutN.all fun b => decide (b.toNat < 128)) = true := by decide

set_option maxHeartbeats 1000000 in
set_option maxRecDepth 100000 in
theorem name_calls (s : ByteArray) (w : World) : Calls Tryd.prog 100 #[.string s] w (BoolIs (VP.nameP s.data.toList) w) := by
  have hl := size_eq_length s
  have F := Lib.hid (show VP.nameP s.data.toList = (decide (2 ≤ s.size) && decide (s.size ≤ 24) && VP.startsNm s.data.toList && s.data.toList.all VP.nm1) by unfold VP.nameP; rw [hl])
  clear hl
  by_cases h2 : 2 ≤ s.size
  · by_cases h24 : s.size ≤ 24
    · have hst := Lib.hid (show VP.startsNm s.data.toList = VP.nm0 s[0] by rw [list_cons s (by omega)]; rfl)
      have hd : VP.nm0 s[0] = true ∨ VP.nm0 s[0] = false := by cases VP.nm0 s[0] <;> simp
      rcases hd with hd | hd
      · have hi : 0 ≤ idxN s[0] := of_decide_eq_true ((idxN_nm0 s[0]).trans hd)
        have HD := Lib.hid hd
        clear hd
        have ha : s.data.toList.all VP.nm1 = true ∨ s.data.toList.all VP.nm1 = false := by cases s.data.toList.all VP.nm1 <;> simp
        go_enter Tryd.func100, Tryd.ntmps100
        go_wp2_with (go_at_call 29; refine (call_idxN _ _).mono ?_; rintro E w' ⟨rfl, rfl⟩)
        refine (call_trimAll s _ cutN VP.nm1 _ (by rfl) cutN_ok cutN_asc (by decide) (by omega)).mono ?_
        rintro E w1 ⟨t, rfl, ht, hb⟩
        rcases ha with ha | ha
        · have ht' : t.toList.isEmpty = true := Eq.trans ht ha
          have HA := Lib.hid ha
          clear ht ha
          go_wp2_with fail
          go_ret
          exact ⟨ret_bool (by rw [F.out, hst.out, HD.out, HA.out] <;> simp <;> omega), hb⟩
        · have ht' : t.toList.isEmpty = false := Eq.trans ht ha
          have HA := Lib.hid ha
          clear ht ha
          go_wp2_with fail
          go_ret
          exact ⟨ret_bool (by rw [F.out, HA.out] <;> simp), hb⟩
      · have hi : ¬ 0 ≤ idxN s[0] := of_decide_eq_false ((idxN_nm0 s[0]).trans hd)
        have HD := Lib.hid hd
        clear hd
        go_enter Tryd.func100, Tryd.ntmps100
        go_wp2_with (go_at_call 29; refine (call_idxN _ _).mono ?_; rintro E w' ⟨rfl, rfl⟩)
        go_ret
        exact ⟨ret_bool (by rw [F.out, hst.out, HD.out] <;> simp), Below.refl _ _⟩
    · go_enter Tryd.func100, Tryd.ntmps100
      go_wp2_with fail
      go_ret
      exact ⟨ret_bool (by rw [F.out, decide_eq_false h24] <;> simp), Below.refl _ _⟩
  · go_enter Tryd.func100, Tryd.ntmps100
    go_wp2_with fail
    go_ret
    exact ⟨ret_bool (by rw [F.out, decide_eq_false h2] <;> simp), Below.refl _ _⟩
end Go.Proofs.YtlkmmejlnohjhaaDoor
