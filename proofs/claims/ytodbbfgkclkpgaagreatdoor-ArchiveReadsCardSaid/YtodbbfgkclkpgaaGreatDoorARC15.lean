/- Which packages may be with their files: plain; two paths that clash. · stanza.Right's closure: two names alike in small letters; is one of some fields called so. · archive.Right's closures: is there a file of this path; is each setting one. -/
import Derived.Test.YtodbbfgkclkpgaaGreatDoorARC11
import Derived.Test.YtodbbfgkclkpgaaGreatDoorARC9
import Derived.Test.YtodbbfgkclkpgaaGreatDoorARC14
import Derived.Deep.RegionHeld3
namespace Go.Proofs.YtodbbfgkclkpgaaGreatDoor
open Go Go.RowKit

/-- g has f's path, or lies beneath it -/
def underB (f g : Fv) : Bool := Lib.hasPrefix g.n.data.toList (f.n ++ ⟨#[47]⟩).data.toList
def clashB (f g : Fv) : Bool := decide (g.n = f.n) || underB f g
def pairOk (f : Fv) (i : Nat) (g : Fv) (k : Nat) : Bool := decide (k = i) || !clashB f g
def fileAt (fs : List Fv) (i : Nat) : Bool :=
  match fs[i]? with
  | none => true
  | some f => VP.pathP f.n.data.toList && VP.allAt fs.length fun k => match fs[k]? with | none => true | some g => pairOk f i g k
def filesOk (fs : List Fv) : Bool := VP.allAt fs.length (fileAt fs)
def hasFile (fs : List Fv) (s : ByteArray) : Bool := fs.any fun f => decide (f.n = s)
def setOk (p : Pv) : Bool := p.se.all (hasFile p.fi)
def archB (p : Pv) : Bool := saysOk p && (decide (p.fi.length ≤ 20) && (filesOk p.fi && setOk p))

theorem fileAt_path {fs : List Fv} {i : Nat} {f : Fv} (h : fs[i]? = some f) (hp : VP.pathP f.n.data.toList = false) : fileAt fs i = false := by
  unfold fileAt; rw [h]; dsimp only; rw [hp]; rfl
theorem fileAt_clash {fs : List Fv} {i k : Nat} {f g : Fv} (h : fs[i]? = some f) (hg : fs[k]? = some g) (hp : pairOk f i g k = false) : fileAt fs i = false := by
  unfold fileAt; rw [h]; dsimp only
  rw [VP.allAt_false (List.getElem?_eq_some_iff.1 hg).1 (by rw [hg]; exact hp), Bool.and_false]
/-- so far the files do not clash with f -/
def PairsTo (fs : List Fv) (f : Fv) (i n : Nat) : Prop := ∀ k, k < n → ∀ g, fs[k]? = some g → pairOk f i g k = true
theorem PairsTo.zero (fs : List Fv) (f : Fv) (i : Nat) : PairsTo fs f i 0 := fun _ h => absurd h (Nat.not_lt_zero _)
theorem PairsTo.succ {fs : List Fv} {f g : Fv} {i n : Nat} (h : PairsTo fs f i n) (hg : fs[n]? = some g) (hp : pairOk f i g n = true) : PairsTo fs f i (n + 1) := fun k hk g' hg' => by
  rcases Nat.lt_or_ge k n with h1 | h1
  · exact h k h1 g' hg'
  · obtain rfl : k = n := by omega
    rw [hg] at hg'
    rw [← Option.some.inj hg']; exact hp
theorem fileAt_true {fs : List Fv} {i : Nat} {f : Fv} (h : fs[i]? = some f) (hp : VP.pathP f.n.data.toList = true) (ha : PairsTo fs f i fs.length) : fileAt fs i = true := by
  unfold fileAt; rw [h]; dsimp only
  rw [hp, Bool.true_and]
  refine VP.allAt_true fun k hk => ?_
  rw [List.getElem?_eq_getElem hk]
  exact ha k hk _ (List.getElem?_eq_getElem hk)
def FilesTo (fs : List Fv) (n : Nat) : Prop := ∀ i, i < n → fileAt fs i = true
theorem FilesTo.zero (fs : List Fv) : FilesTo fs 0 := fun _ h => absurd h (Nat.not_lt_zero _)
theorem FilesTo.succ {fs : List Fv} {n : Nat} (h : FilesTo fs n) (hp : fileAt fs n = true) : FilesTo fs (n + 1) := fun i hi => by
  rcases Nat.lt_or_ge i n with h1 | h1
  · exact h i h1
  · obtain rfl : i = n := by omega
    exact hp
theorem FilesTo.done {fs : List Fv} (h : FilesTo fs fs.length) : filesOk fs = true := VP.allAt_true h
theorem files_bad {fs : List Fv} {i : Nat} (hi : i < fs.length) (h : fileAt fs i = false) : filesOk fs = false := VP.allAt_false hi h
theorem arch_says {p : Pv} (h : saysOk p = false) : archB p = false := by unfold archB; rw [h]; rfl
theorem arch_many {p : Pv} (h : ¬ p.fi.length ≤ 20) : archB p = false := by
  unfold archB
  rw [show decide (p.fi.length ≤ 20) = false from decide_eq_false h]
  cases saysOk p <;> rfl
theorem arch_files {p : Pv} (h : filesOk p.fi = false) : archB p = false := by
  unfold archB
  rw [h]
  cases saysOk p <;> cases decide (p.fi.length ≤ 20) <;> rfl
theorem arch_rest {p : Pv} (h1 : saysOk p = true) (h2 : p.fi.length ≤ 20) (h3 : filesOk p.fi = true) : archB p = setOk p := by
  unfold archB
  rw [h1, h3, show decide (p.fi.length ≤ 20) = true from decide_eq_true h2]; rfl
theorem name_eq (a b : ByteArray) : (a.toList == b.toList) = decide (a = b) := by
  rw [Lib.toList_data, Lib.toList_data, Bool.eq_iff_iff, beq_iff_eq, decide_eq_true_iff]
  exact ⟨fun h => data_inj h, fun h => by rw [h]⟩
theorem name_eq' (a b : ByteArray) : (b.toList == a.toList) = decide (a = b) := by
  rw [name_eq, Bool.eq_iff_iff, decide_eq_true_iff, decide_eq_true_iff]
  exact ⟨fun h => h.symm, fun h => h.symm⟩
end Go.Proofs.YtodbbfgkclkpgaaGreatDoor

namespace Go.Proofs.YtodbbfgkclkpgaaGreatDoor
open Go Go.RowKit

/-- alike in small letters -/
def sameN (a b : ByteArray) : Bool := decide (VP.smallP a.data.toList = VP.smallP b.data.toList)
def smallB (s : ByteArray) : ByteArray := ⟨(VP.smallP s.data.toList).toArray⟩
theorem smallB_eq (a b : ByteArray) : ((smallB a).toList == (smallB b).toList) = sameN a b := by
  unfold sameN smallB
  rw [Lib.toList_data, Lib.toList_data, Bool.eq_iff_iff, beq_iff_eq, decide_eq_true_iff]

def TwoS (w0 : World) (b1 b2 : Nat) (n1 n2 : ByteArray) (W : World) : Prop := W.cell? ⟨b1, 0, none⟩ = some (.string n1) ∧ W.cell? ⟨b2, 0, none⟩ = some (.string n2) ∧ Below w0.heap.size w0 W
theorem twoS_go {w0 : World} {b1 b2 : Nat} {n1 n2 : ByteArray} {W W' : World} (h : TwoS w0 b1 b2 n1 n2 W) (hb : Below W.heap.size W W') : TwoS w0 b1 b2 n1 n2 W' := ⟨kept hb h.1, kept hb h.2.1, step_below h.2.2 hb⟩
theorem twoS_below {w0 : World} {b1 b2 : Nat} {n1 n2 : ByteArray} {W : World} (h : TwoS w0 b1 b2 n1 n2 W) : Below w0.heap.size w0 W := h.2.2

end Go.Proofs.YtodbbfgkclkpgaaGreatDoor

namespace Go.Proofs.YtodbbfgkclkpgaaGreatDoor
open Go Go.RowKit

set_option maxRecDepth 100000 in
theorem fileNamed_calls (x : Fv) (b : Nat) (s : ByteArray) (w : World) (hc : w.cell? ⟨b, 0, none⟩ = some (.string s)) :
    Calls Tryz.prog 88 #[.agg #[.string x.n, .string x.v], .pointer (some ⟨b, 0, none⟩)] w (BoolIs (decide (x.n = s)) w) := by
  have hb0 := below_alloc w (.cells #[.string x.n, .string x.v] 81)
  have hc1 := kept hb0 hc
  have hq := name_eq x.n s
  obtain ⟨bq, hbq⟩ : ∃ y, decide (x.n = s) = y := ⟨_, rfl⟩
  rw [hbq] at hq ⊢
  clear hbq hc
  go_enter Tryz.func88, Tryz.ntmps88
  go_wp2_with fail
  go_ret
  exact ⟨ret_bool (by first | rfl | (simp [hq])), hb0⟩

set_option maxHeartbeats 1000000 in
set_option maxRecDepth 100000 in
theorem idxFile_calls (v : Value) (fs : List Fv) (b : Nat) (p : Fv → Bool) (w : World) (h : FieldsAt w v fs) (C : ∀ (W : World) (x : Fv), Below w.heap.size w W → x ∈ fs → Calls Tryz.prog 88 #[.agg #[.string x.n, .string x.v], .pointer (some ⟨b, 0, none⟩)] W (BoolIs (p x) W)) :
    Calls Tryz.prog 148 #[v, .func (.func 88) #[] #[.pointer (some ⟨b, 0, none⟩)]] w (IdxIs (fs.any p) w) := by
  obtain ⟨A, c, hv, hc, hm, hr⟩ := h.open
  subst hv
  obtain ⟨len, hlen⟩ : ∃ len, fs.length = len := ⟨_, rfl⟩
  have HL := Lib.hid hlen
  have HR := Lib.hid hr
  have HC := Lib.hid C
  rw [hlen] at hc hm ⊢
  clear hlen hr C h
  go_enter Tryz.func148, Tryz.ntmps148
  go_wp2_with fail
  go_loopw [8] (fun i wr => ∃ k : Nat, k ≤ len ∧ i = .int .i64 k ∧ Hid ((fs.take k).any p = false) ∧ Below w.heap.size w wr) (fun i _ => len - (intOf i).toNat)
  case atStart => exact ⟨0, Nat.zero_le _, rfl, rfl, Below.refl _ _⟩
  case round =>
    obtain ⟨k, hk, rfl, hall, hB⟩ := hrel
    by_cases hlt : k < len
    · have hne : fs ≠ [] := by
        intro e
        have := HL.out
        rw [e] at this
        simp at this
        omega
      obtain ⟨x, ht⟩ : ∃ x, fs[k]? = some x := ⟨fs[k]'(by have := HL.out; omega), List.getElem?_eq_getElem _⟩
      obtain ⟨b', off, rfl, hi⟩ := HR.out hne
      obtain ⟨c0, c1⟩ := hi k x ht
      replace c0 := kept hB c0
      replace c1 := kept hB c1
      have HT := Lib.hid ht
      have H := Lib.hid (HC.out wr x hB (List.mem_of_getElem? ht))
      obtain ⟨pb, hpb⟩ : ∃ pb, p x = pb := ⟨_, rfl⟩
      have HP := Lib.hid hpb
      rw [hpb] at H
      clear ht hi hne hpb
      go_wp2_with fail
      refine H.out.mono ?_
      rintro E w1 ⟨rfl, hb⟩
      have hB := step_below hB hb
      clear hb H
      cases pb with
      | true =>
        go_wp2_with fail
        go_ret
        exact ⟨_, rfl, by rw [any_stop HT.out HP.out]; simp, hB⟩
      | false =>
        go_wp2_with fail
        go_roundw
        case rel => exact ⟨k + 1, by omega, by go_num, Lib.hid (any_take_succ hall.out HT.out HP.out), hB⟩
        case measure => simp [intOf]; omega
    · obtain rfl : k = len := by omega
      go_wp2_with fail
      go_ret
      exact ⟨_, rfl, by have := hall.out; rw [← HL.out] at this; rw [any_done this]; simp, hB⟩

set_option maxRecDepth 100000 in
theorem hasFile_calls (v : Value) (fs : List Fv) (b : Nat) (p : Fv → Bool) (w : World) (h : FieldsAt w v fs) (C : ∀ (W : World) (x : Fv), Below w.heap.size w W → x ∈ fs → Calls Tryz.prog 88 #[.agg #[.string x.n, .string x.v], .pointer (some ⟨b, 0, none⟩)] W (BoolIs (p x) W)) :
    Calls Tryz.prog 87 #[v, .func (.func 88) #[] #[.pointer (some ⟨b, 0, none⟩)]] w (BoolIs (fs.any p) w) := by
  have H := Lib.hid (idxFile_calls v fs b p w h C)
  clear h C
  go_enter Tryz.func87, Tryz.ntmps87
  go_wp2_with fail
  refine H.out.mono ?_
  rintro E w1 ⟨i, rfl, hi, hb⟩
  have HI := Lib.hid hi
  clear hi
  by_cases h0 : 0 ≤ i
  · go_wp2_with fail
    go_ret
    exact ⟨ret_bool (by rw [← HI.out]; simp [h0]), hb⟩
  · go_wp2_with fail
    go_ret
    exact ⟨ret_bool HI.out, hb⟩

set_option maxRecDepth 100000 in
/-- is this setting no path of the package's files -/
theorem noFile_calls (s : ByteArray) (m : Nat) (v9 : Value) (fs : List Fv) (w : World) (hc : w.cell? ⟨m, 12, none⟩ = some v9) (h9 : FieldsAt w v9 fs) :
    Calls Tryz.prog 86 #[.string s, .pointer (some ⟨m, 0, none⟩)] w (BoolIs (!hasFile fs s) w) := by
  have hb0 := below_alloc w (.cells #[.string s] 9)
  have hc1 := kept hb0 hc
  have hd : (w.alloc (.cells #[.string s] 9)).cell? ⟨w.heap.size, 0, none⟩ = some (.string s) := by go_cell
  have H := Lib.hid (hasFile_calls v9 fs w.heap.size (fun f => decide (f.n = s)) (w.alloc (.cells #[.string s] 9)) (h9.below hb0) (fun W x hb _ => fileNamed_calls x w.heap.size s W (kept hb hd)))
  obtain ⟨A, c, rfl, _⟩ := h9.open
  obtain ⟨bq, hbq⟩ : ∃ y, (fs.any fun f => decide (f.n = s)) = y := ⟨_, rfl⟩
  have HQ := Lib.hid (show hasFile fs s = bq from hbq)
  rw [hbq] at H
  clear hbq h9 hc hd
  go_enter Tryz.func86, Tryz.ntmps86
  go_wp2_with fail
  refine H.out.mono ?_
  rintro E w1 ⟨rfl, hb⟩
  have hB := step_below hb0 hb
  clear hb H hb0 hc1
  go_wp2_with fail
  go_ret
  exact ⟨ret_bool (by rw [HQ.out]), hB⟩

set_option maxHeartbeats 1000000 in
set_option maxRecDepth 100000 in
theorem idxSet_calls (v : Value) (fs : List ByteArray) (b : Nat) (p : ByteArray → Bool) (w : World) (h : StrsAt w v fs) (C : ∀ (W : World) (x : ByteArray), Below w.heap.size w W → x ∈ fs → Calls Tryz.prog 86 #[.string x, .pointer (some ⟨b, 0, none⟩)] W (BoolIs (p x) W)) :
    Calls Tryz.prog 147 #[v, .func (.func 86) #[] #[.pointer (some ⟨b, 0, none⟩)]] w (IdxIs (fs.any p) w) := by
  obtain ⟨A, c, hv, hc, hm, hr⟩ := h.open
  subst hv
  obtain ⟨len, hlen⟩ : ∃ len, fs.length = len := ⟨_, rfl⟩
  have HL := Lib.hid hlen
  have HR := Lib.hid hr
  have HC := Lib.hid C
  rw [hlen] at hc hm ⊢
  clear hlen hr C h
  go_enter Tryz.func147, Tryz.ntmps147
  go_wp2_with fail
  go_loopw [8] (fun i wr => ∃ k : Nat, k ≤ len ∧ i = .int .i64 k ∧ Hid ((fs.take k).any p = false) ∧ Below w.heap.size w wr) (fun i _ => len - (intOf i).toNat)
  case atStart => exact ⟨0, Nat.zero_le _, rfl, rfl, Below.refl _ _⟩
  case round =>
    obtain ⟨k, hk, rfl, hall, hB⟩ := hrel
    by_cases hlt : k < len
    · have hne : fs ≠ [] := by
        intro e
        have := HL.out
        rw [e] at this
        simp at this
        omega
      obtain ⟨x, ht⟩ : ∃ x, fs[k]? = some x := ⟨fs[k]'(by have := HL.out; omega), List.getElem?_eq_getElem _⟩
      obtain ⟨b', off, rfl, hi⟩ := HR.out hne
      have c0 := kept hB (hi k x ht)
      have HT := Lib.hid ht
      have H := Lib.hid (HC.out wr x hB (List.mem_of_getElem? ht))
      obtain ⟨pb, hpb⟩ : ∃ pb, p x = pb := ⟨_, rfl⟩
      have HP := Lib.hid hpb
      rw [hpb] at H
      clear ht hi hne hpb
      go_wp2_with fail
      refine H.out.mono ?_
      rintro E w1 ⟨rfl, hb⟩
      have hB := step_below hB hb
      clear hb H
      cases pb with
      | true =>
        go_wp2_with fail
        go_ret
        exact ⟨_, rfl, by rw [any_stop HT.out HP.out]; simp, hB⟩
      | false =>
        go_wp2_with fail
        go_roundw
        case rel => exact ⟨k + 1, by omega, by go_num, Lib.hid (any_take_succ hall.out HT.out HP.out), hB⟩
        case measure => simp [intOf]; omega
    · obtain rfl : k = len := by omega
      go_wp2_with fail
      go_ret
      exact ⟨_, rfl, by have := hall.out; rw [← HL.out] at this; rw [any_done this]; simp, hB⟩

set_option maxRecDepth 100000 in
theorem hasSet_calls (v : Value) (fs : List ByteArray) (b : Nat) (p : ByteArray → Bool) (w : World) (h : StrsAt w v fs) (C : ∀ (W : World) (x : ByteArray), Below w.heap.size w W → x ∈ fs → Calls Tryz.prog 86 #[.string x, .pointer (some ⟨b, 0, none⟩)] W (BoolIs (p x) W)) :
    Calls Tryz.prog 85 #[v, .func (.func 86) #[] #[.pointer (some ⟨b, 0, none⟩)]] w (BoolIs (fs.any p) w) := by
  have H := Lib.hid (idxSet_calls v fs b p w h C)
  clear h C
  go_enter Tryz.func85, Tryz.ntmps85
  go_wp2_with fail
  refine H.out.mono ?_
  rintro E w1 ⟨i, rfl, hi, hb⟩
  have HI := Lib.hid hi
  clear hi
  by_cases h0 : 0 ≤ i
  · go_wp2_with fail
    go_ret
    exact ⟨ret_bool (by rw [← HI.out]; simp [h0]), hb⟩
  · go_wp2_with fail
    go_ret
    exact ⟨ret_bool HI.out, hb⟩
end Go.Proofs.YtodbbfgkclkpgaaGreatDoor
