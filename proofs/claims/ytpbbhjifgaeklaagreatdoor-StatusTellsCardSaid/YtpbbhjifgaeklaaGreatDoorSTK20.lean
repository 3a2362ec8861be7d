/- Which packages may be with their files: plain; two paths that clash. · status.bad: may a text be no path of a task; and names of those that wait. -/
import Derived.Test.YtpbbhjifgaeklaaGreatDoorSTK18
import Derived.Test.YtpbbhjifgaeklaaGreatDoorSTK15
import Derived.Test.YtpbbhjifgaeklaaGreatDoorSTK16
import Derived.Test.YtpbbhjifgaeklaaGreatDoorSTK19
import Derived.Test.YtpbbhjifgaeklaaGreatDoorSTK13
namespace Go.Proofs.YtpbbhjifgaeklaaGreatDoor
open Go Go.RowKit

/-- g has f's path, or lies beneath it -/
def underB (f g : Fv) : Bool := Lib.hasPrefix g.n.data.toList (f.n ++ ⟨#[47]⟩).data.toList
def clashB (f g : Fv) : Bool := decide (g.n = f.n) || underB f g
def pairOk (f : Fv) (i : Nat) (g : Fv) (k : Nat) : Bool := decide (k = i) || !clashB f g
def fileAt (fs : List Fv) (i : Nat) : Bool :=
  match fs[i]? with
  | none => true
  | some f => VP.pathP f.n.data.toList && VP.allAt fs.length fun k => match fs[k]? with | none => true | some g => pairOk f i g k
/-- so far the files do not clash with f -/
def PairsTo (fs : List Fv) (f : Fv) (i n : Nat) : Prop := ∀ k, k < n → ∀ g, fs[k]? = some g → pairOk f i g k = true
theorem PairsTo.zero (fs : List Fv) (f : Fv) (i : Nat) : PairsTo fs f i 0 := fun _ h => absurd h (Nat.not_lt_zero _)
theorem PairsTo.succ {fs : List Fv} {f g : Fv} {i n : Nat} (h : PairsTo fs f i n) (hg : fs[n]? = some g) (hp : pairOk f i g n = true) : PairsTo fs f i (n + 1) := fun k hk g' hg' => by
  rcases Nat.lt_or_ge k n with h1 | h1
  · exact h k h1 g' hg'
  · obtain rfl : k = n := by omega
    rw [hg] at hg'
    rw [← Option.some.inj hg']; exact hp
def FilesTo (fs : List Fv) (n : Nat) : Prop := ∀ i, i < n → fileAt fs i = true
theorem FilesTo.zero (fs : List Fv) : FilesTo fs 0 := fun _ h => absurd h (Nat.not_lt_zero _)
theorem FilesTo.succ {fs : List Fv} {n : Nat} (h : FilesTo fs n) (hp : fileAt fs n = true) : FilesTo fs (n + 1) := fun i hi => by
  rcases Nat.lt_or_ge i n with h1 | h1
  · exact h i h1
  · obtain rfl : i = n := by omega
    exact hp
theorem name_eq (a b : ByteArray) : (a.toList == b.toList) = decide (a = b) := by
  rw [Lib.toList_data, Lib.toList_data, Bool.eq_iff_iff, beq_iff_eq, decide_eq_true_iff]
  exact ⟨fun h => data_inj h, fun h => by rw [h]⟩
end Go.Proofs.YtpbbhjifgaeklaaGreatDoor

namespace Go.Proofs.YtpbbhjifgaeklaaGreatDoor
open Go Go.RowKit

theorem task_bad {s : ByteArray} {k : Nat} (hlt : k < s.size) (h : taskC s[k] = false) : taskP s.data.toList = false := by
  have : s.data.toList.all taskC = false := by
    rw [← List.take_append_drop k s.data.toList, drop_cons s k hlt, List.all_append, List.all_cons, h]
    simp
  unfold taskP
  rw [this]
  rfl
theorem task_rest {s : ByteArray} (h : s.data.toList.all taskC = true) : taskP s.data.toList = (!(s.data.toList == []) && !(s.data.toList == [45]) && decide (s.size ≤ 60)) := by
  unfold taskP
  rw [h, ← size_eq_length]
  rfl
theorem taskC_at (c : UInt8) : taskC c = (decide (33 ≤ c.toNat) && decide (c.toNat ≤ 126) && !decide (c.toNat = 44)) := by
  unfold taskC
  rw [show (c == 44) = decide (c.toNat = 44) from u8_beq c 44 (by omega)]

set_option maxHeartbeats 2000000 in
set_option maxRecDepth 100000 in
theorem bad_calls (s : ByteArray) (w : World) (hs : s.size ≤ 1000000) : Calls Tryz.prog 72 #[.string s] w fun E w' => E = .returned (.bool (!taskP s.data.toList)) ∧ w = w' := by
  have HL := Lib.hid (size_eq_length s)
  go_enter Tryz.func72, Tryz.ntmps72
  go_wp2_with fail
  go_loop [6] (fun i => ∃ k : Nat, k ≤ s.size ∧ i = .int .i64 k ∧ Hid ((s.data.toList.take k).all taskC = true)) (fun i => s.size - (intOf i).toNat)
  case atStart => exact ⟨0, Nat.zero_le _, rfl, rfl⟩
  case round =>
    obtain ⟨k, hk, rfl, hall⟩ := hrel
    by_cases hlt : k < s.size
    · have hbt : s[k].toNat < 256 := s[k].toNat_lt
      have hts := Lib.hid (take_snoc s k hlt)
      have ho := taskC_at s[k]
      by_cases hok : taskC s[k] = true
      · have HK := Lib.hid (show (s.data.toList.take (k + 1)).all taskC = true by rw [hts.out, List.all_append, hall.out]; simp [hok])
        rw [ho] at hok
        simp only [Bool.and_eq_true, decide_eq_true_eq, Bool.not_eq_true', decide_eq_false_iff_not] at hok
        obtain ⟨⟨h1, h2⟩, h3⟩ := hok
        have hb := beqI_ne 44 rfl h3
        clear ho hts hall h3
        go_wp2_with fail
        go_round
        case rel => exact ⟨k + 1, by omega, by go_num, HK⟩
        case measure => simp [intOf]; omega
      · have HF := Lib.hid (task_bad hlt (Bool.eq_false_iff.2 hok))
        have hc : s[k].toNat < 33 ∨ 126 < s[k].toNat ∨ (33 ≤ s[k].toNat ∧ s[k].toNat ≤ 126 ∧ s[k].toNat = 44) := by
          rw [ho] at hok
          simp only [Bool.and_eq_true, decide_eq_true_eq, Bool.not_eq_true', decide_eq_false_iff_not] at hok
          omega
        clear ho hok hts hall HL
        rcases hc with h1 | h1 | ⟨h1, h2, h3⟩
        · go_wp2_with fail
          go_ret
          exact ⟨ret_bool (by rw [HF.out]; rfl), rfl⟩
        · have h0 : 33 ≤ s[k].toNat := by omega
          go_wp2_with fail
          go_ret
          exact ⟨ret_bool (by rw [HF.out]; rfl), rfl⟩
        · have hb := beqI 44 rfl h3
          clear h3
          go_wp2_with fail
          go_ret
          exact ⟨ret_bool (by rw [HF.out]; rfl), rfl⟩
    · have ha : s.data.toList.all taskC = true := by
        have hl := HL.out
        have := hall.out
        rwa [List.take_of_length_le (by omega)] at this
      have F := Lib.hid (task_rest ha)
      clear ha hall
      rw [← Lib.toList_data] at F
      have F1 := Lib.hid (show (!taskP s.data.toList) = (s.toList.isEmpty || s.toList == [45] || decide (60 < (s.size : Int))) by
        rw [← Lib.toList_data s, F.out, show s.toList.isEmpty = (s.toList == []) by cases s.toList <;> rfl, show decide (60 < (s.size : Int)) = !decide (s.size ≤ 60) by rw [Bool.eq_iff_iff]; simp; omega]
        cases (s.toList == []) <;> cases (s.toList == [45]) <;> simp)
      clear F HL
      cases q1 : s.toList.isEmpty with
      | true =>
        have q3 : s.toList = [] := List.isEmpty_iff.1 q1
        go_wp2_with fail
        go_ret
        exact ⟨ret_bool (by rw [F1.out, q1]; rfl), rfl⟩
      | false =>
        have q3 : ¬ s.toList = [] := fun e => by rw [e] at q1; cases q1
        cases q2 : (s.toList == [45]) with
        | true =>
          have q4 : s.toList = [45] := eq_of_beq q2
          go_wp2_with fail
          go_ret
          exact ⟨ret_bool (by rw [F1.out, q1, q2]; rfl), rfl⟩
        | false =>
          have q4 : ¬ s.toList = [45] := fun e => by rw [e] at q2; revert q2; decide
          go_wp2_with fail
          go_ret
          exact ⟨ret_bool (by rw [F1.out, q1, q2]; rfl), rfl⟩

theorem badB_calls (s : ByteArray) (w : World) (hs : s.size ≤ 1000000) : Calls Tryz.prog 72 #[.string s] w (BoolIs (!taskP s.data.toList) w) :=
  (bad_calls s w hs).mono fun _ _ ⟨he, hw⟩ => ⟨he, hw ▸ Below.refl _ _⟩

set_option maxRecDepth 100000 in
theorem noName_calls (s : ByteArray) (w : World) : Calls Tryz.prog 70 #[.string s] w (BoolIs (!VP.nameP s.data.toList) w) := by
  have H := Lib.hid (name_calls s w)
  obtain ⟨b, hb⟩ : ∃ y, VP.nameP s.data.toList = y := ⟨_, rfl⟩
  rw [hb] at H ⊢
  clear hb
  go_enter Tryz.func70, Tryz.ntmps70
  go_wp2_with fail
  refine H.out.mono ?_
  rintro E w1 ⟨rfl, hb⟩
  go_wp2_with fail
  go_ret
  exact ⟨rfl, hb⟩

theorem anyName_calls (v : Value) (l : List ByteArray) (w : World) (h : StrsAt w v l) : Calls Tryz.prog 69 #[v, .func (.func 70) #[] #[]] w (BoolIs (!namesB l) w) := by
  have := hasWtN_calls v l (fun s => !VP.nameP s.data.toList) w h (fun W x _ _ => noName_calls x W)
  rwa [← List.not_all_eq_any_not] at this
theorem anyBad_calls (v : Value) (l : List ByteArray) (w : World) (h : StrsAt w v l) (hs : ∀ s ∈ l, s.size ≤ 1000000) : Calls Tryz.prog 69 #[v, .func (.func 72) #[] #[]] w (BoolIs (!tasksB l) w) := by
  have := hasTkN_calls v l (fun s => !taskP s.data.toList) w h (fun W x _ hx => badB_calls x W (hs x hx))
  rwa [← List.not_all_eq_any_not] at this
end Go.Proofs.YtpbbhjifgaeklaaGreatDoor
