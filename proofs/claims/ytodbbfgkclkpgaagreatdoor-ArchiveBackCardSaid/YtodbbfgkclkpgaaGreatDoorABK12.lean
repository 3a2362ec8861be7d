/- What depend.term calls, in our words: blanks at the ends, a bracket, a sign ahead. · depend.term: a package that is asked for, read. -/
import Derived.Test.YtodbbfgkclkpgaaGreatDoorABK8
import Derived.Deep.DeepCutAuto
import Derived.Deep.CutBlock
namespace Go.Proofs.YtodbbfgkclkpgaaGreatDoor
open Go.RowKit

theorem gap_fin : ∀ i : Fin 256, ([32, 9, 10] : List UInt8).contains (UInt8.ofNat i.val) = VP.gap (UInt8.ofNat i.val) := by decide +kernel
theorem gap_contains (c : UInt8) : ([32, 9, 10] : List UInt8).contains c = VP.gap c := by
  have := gap_fin ⟨c.toNat, c.toNat_lt⟩
  simpa using this
theorem gap_fun : (fun c => ([32, 9, 10] : List UInt8).contains c) = VP.gap := funext gap_contains
theorem gaps_ascii : ∀ (j : Nat) (b : UInt8), (⟨#[32, 9, 10]⟩ : ByteArray).data.toList[j]? = some b → b.toNat < 128 := fun j b h => by
  have hm : b ∈ ([32, 9, 10] : List UInt8) := List.mem_of_getElem? h
  have hall : (([32, 9, 10] : List UInt8).all fun b => decide (b.toNat < 128)) = true := by decide
  simpa using List.all_eq_true.1 hall b hm

theorem call_trim3 (s : ByteArray) (w : World) (hs : s.size ≤ 1000000) : Calls Tryz.prog 137 #[.string s, .string ⟨#[32, 9, 10]⟩] w fun e w' => ∃ t : ByteArray, e = .returned (.string t) ∧ t.data.toList = VP.trimP s.data.toList ∧ Below w.heap.size w w' :=
  (Any.strings_Trim_laid Tryz.lays160 info_set s ⟨#[32, 9, 10]⟩ w (by omega) (by decide) gaps_ascii).mono fun e w' ⟨he, hb⟩ => by
    refine ⟨_, he, ?_, hb⟩
    show Lib.trimS s.data.toList [32, 9, 10] = VP.trimP s.data.toList
    unfold Lib.trimS Lib.trimLeftS Lib.trimRightS VP.trimP VP.trimR
    rw [gap_fun]
theorem call_trimR3 (s : ByteArray) (w : World) (hs : s.size ≤ 1000000) : Calls Tryz.prog 187 #[.string s, .string ⟨#[32, 9, 10]⟩] w fun e w' => ∃ t : ByteArray, e = .returned (.string t) ∧ t.data.toList = VP.trimR s.data.toList ∧ Below w.heap.size w w' :=
  (Any.strings_TrimRight_laid Tryz.lays162 info_set s ⟨#[32, 9, 10]⟩ w (by omega) (by decide) gaps_ascii).mono fun e w' ⟨he, hb⟩ => by
    refine ⟨_, he, ?_, hb⟩
    show Lib.trimRightS s.data.toList [32, 9, 10] = VP.trimR s.data.toList
    unfold Lib.trimRightS VP.trimR
    rw [gap_fun]

theorem call_open_none (s : ByteArray) (w : World) (hE : Env w) (hs : s.size ≤ 1000000) (h : VP.cutAt 40 s.data.toList = none) :
    Calls Tryz.prog 121 #[.string s, .string ⟨#[40]⟩] w fun e w' => e = .returned (.tuple #[.string s, .string ⟨#[]⟩, .bool false]) ∧ Below w.heap.size w w' := by
  obtain ⟨⟨m, hm⟩, _⟩ := hE
  refine (Tryz.strings_Cut s ⟨#[40]⟩ m w (by omega) hm).mono fun e w' ⟨he, n, hw⟩ => ⟨?_, by rw [hw]; exact below_drewN _ _ _⟩
  rw [he]
  have e1 : (⟨#[40]⟩ : ByteArray).data.toList = [40] := rfl
  rw [e1, cut_one, h]
theorem call_open_some (s : ByteArray) (w : World) (hE : Env w) (hs : s.size ≤ 1000000) (a b : List UInt8) (h : VP.cutAt 40 s.data.toList = some (a, b)) :
    Calls Tryz.prog 121 #[.string s, .string ⟨#[40]⟩] w fun e w' => ∃ A B : ByteArray, e = .returned (.tuple #[.string A, .string B, .bool true]) ∧ A.data.toList = a ∧ B.data.toList = b ∧ Below w.heap.size w w' := by
  obtain ⟨⟨m, hm⟩, _⟩ := hE
  refine (Tryz.strings_Cut s ⟨#[40]⟩ m w (by omega) hm).mono fun e w' ⟨he, n, hw⟩ => ⟨⟨a.toArray⟩, ⟨b.toArray⟩, ?_, rfl, rfl, by rw [hw]; exact below_drewN _ _ _⟩
  rw [he]
  have e1 : (⟨#[40]⟩ : ByteArray).data.toList = [40] := rfl
  rw [e1, cut_one, h]

/-- does it end with a closing bracket -/
def closes (l : List UInt8) : Bool := decide (l.getLast? = some 41)
theorem suffix_41 (l : List UInt8) : Lib.hasSuffix l [41] = closes l := by
  unfold Lib.hasSuffix closes
  rw [Bool.eq_iff_iff, List.isSuffixOf_iff_suffix, decide_eq_true_eq]
  constructor
  · rintro ⟨t, rfl⟩
    simp
  · intro h
    obtain ⟨t, rfl⟩ := List.getLast?_eq_some_iff.1 h
    exact ⟨t, rfl⟩
theorem trimSuffix_41 (l : List UInt8) : Lib.trimSuffix l [41] = if closes l then l.dropLast else l := by
  unfold Lib.trimSuffix
  rw [suffix_41]
  split
  · rw [List.dropLast_eq_take]; rfl
  · rfl
theorem call_close (s : ByteArray) (w : World) (hs : s.size ≤ 1000000) : Calls Tryz.prog 188 #[.string s, .string ⟨#[41]⟩] w fun e w' => ∃ t : ByteArray, e = .returned (.tuple #[.string t, .bool (closes s.data.toList)]) ∧ t.data.toList = (if closes s.data.toList then s.data.toList.dropLast else s.data.toList) ∧ w = w' :=
  (Tryz.strings_CutSuffix s ⟨#[41]⟩ w (by omega)).mono fun e w' ⟨he, hw⟩ => by
    have e1 : (⟨#[41]⟩ : ByteArray).data.toList = [41] := rfl
    rw [e1, suffix_41] at he
    refine ⟨_, he, ?_, hw.symm⟩
    show Lib.trimSuffix s.data.toList [41] = _
    exact trimSuffix_41 _

/-! a sign ahead -/
def hasPre (k : Nat) (l : List UInt8) : Bool := Lib.hasPrefix l (VP.signP (k : Int))
theorem call_pre (s sg : ByteArray) (k : Nat) (h : sg.data.toList = VP.signP (k : Int)) (w : World) : Calls Tryz.prog 84 #[.string s, .string sg] w fun e w' => e = .returned (.bool (hasPre k s.data.toList)) ∧ w = w' :=
  (Tryz.strings_HasPrefix s sg w).mono fun e w' ⟨he, hw⟩ => ⟨by rw [he, h]; rfl, hw.symm⟩

theorem opP_pre (k : Nat) (l : List UInt8) (h1 : 1 ≤ k) (h6 : k < 6) (h : hasPre k l = true) : VP.opP l = ((k : Int), l.drop (VP.signP (k : Int)).length) ∧ (VP.signP (k : Int)).length ≤ l.length := by
  unfold hasPre Lib.hasPrefix at h
  rw [List.isPrefixOf_iff_prefix] at h
  obtain ⟨r, rfl⟩ := h
  refine ⟨?_, by rw [List.length_append]; omega⟩
  rw [List.drop_left]
  have hk : k = 1 ∨ k = 2 ∨ k = 3 ∨ k = 4 ∨ k = 5 := by omega
  rcases hk with rfl | rfl | rfl | rfl | rfl <;> rfl

theorem opP_nopre (l : List UInt8) (h : ∀ k, 1 ≤ k → k < 6 → hasPre k l = false) : VP.opP l = (0, l) := by
  unfold VP.opP
  split
  · have := h 1 (by omega) (by omega); simp [hasPre, Lib.hasPrefix, VP.signP, List.isPrefixOf] at this
  · have := h 2 (by omega) (by omega); simp [hasPre, Lib.hasPrefix, VP.signP, List.isPrefixOf] at this
  · have := h 3 (by omega) (by omega); simp [hasPre, Lib.hasPrefix, VP.signP, List.isPrefixOf] at this
  · have := h 4 (by omega) (by omega); simp [hasPre, Lib.hasPrefix, VP.signP, List.isPrefixOf] at this
  · have := h 5 (by omega) (by omega); simp [hasPre, Lib.hasPrefix, VP.signP, List.isPrefixOf] at this
  · rfl

/-- a term in a box of the call's own -/
structure Box5 (W : World) (g : Nat) (n : ByteArray) (op e : Int) (u r : ByteArray) : Prop where
  c0 : W.cell? ⟨g, 0, none⟩ = some (.string n)
  c1 : W.cell? ⟨g, 1, none⟩ = some (.int .i64 op)
  c2 : W.cell? ⟨g, 2, none⟩ = some (.int .i64 e)
  c3 : W.cell? ⟨g, 3, none⟩ = some (.string u)
  c4 : W.cell? ⟨g, 4, none⟩ = some (.string r)
  f0 : W.frozen? ⟨g, 0, none⟩ = false
  f1 : W.frozen? ⟨g, 1, none⟩ = false
  f2 : W.frozen? ⟨g, 2, none⟩ = false
  f3 : W.frozen? ⟨g, 3, none⟩ = false
  f4 : W.frozen? ⟨g, 4, none⟩ = false

theorem Box5.below {W W' : World} {g : Nat} {n : ByteArray} {op e : Int} {u r : ByteArray} (h : Box5 W g n op e u r) (hb : Below W.heap.size W W') : Box5 W' g n op e u r :=
  have hz : g < W.heap.size := cell_lt h.c0
  ⟨kept hb h.c0, kept hb h.c1, kept hb h.c2, kept hb h.c3, kept hb h.c4, keptf hb hz h.f0, keptf hb hz h.f1, keptf hb hz h.f2, keptf hb hz h.f3, keptf hb hz h.f4⟩
theorem Box5.new (W : World) (n : ByteArray) (op e : Int) (u r : ByteArray) (t : TypeId) : Box5 (W.alloc (.cells #[.string n, .int .i64 op, .int .i64 e, .string u, .string r] t)) W.heap.size n op e u r :=
  ⟨by go_cell, by go_cell, by go_cell, by go_cell, by go_cell, by simp [go_sem], by simp [go_sem], by simp [go_sem], by simp [go_sem], by simp [go_sem]⟩
theorem Box5.setOp {W : World} {g : Nat} {n : ByteArray} {op e : Int} {u r : ByteArray} (h : Box5 W g n op e u r) (op' : Int) : Box5 (W.setCell ⟨g, 1, none⟩ (.int .i64 op')) g n op' e u r := by
  obtain ⟨c0, c1, c2, c3, c4, f0, f1, f2, f3, f4⟩ := h
  exact ⟨by go_cell, by go_cell, by go_cell, by go_cell, by go_cell, by simp [go_sem, f0], by simp [go_sem, f1], by simp [go_sem, f2], by simp [go_sem, f3], by simp [go_sem, f4]⟩
theorem Box5.setE {W : World} {g : Nat} {n : ByteArray} {op e : Int} {u r : ByteArray} (h : Box5 W g n op e u r) (e' : Int) : Box5 (W.setCell ⟨g, 2, none⟩ (.int .i64 e')) g n op e' u r := by
  obtain ⟨c0, c1, c2, c3, c4, f0, f1, f2, f3, f4⟩ := h
  exact ⟨by go_cell, by go_cell, by go_cell, by go_cell, by go_cell, by simp [go_sem, f0], by simp [go_sem, f1], by simp [go_sem, f2], by simp [go_sem, f3], by simp [go_sem, f4]⟩
theorem Box5.setU {W : World} {g : Nat} {n : ByteArray} {op e : Int} {u r : ByteArray} (h : Box5 W g n op e u r) (u' : ByteArray) : Box5 (W.setCell ⟨g, 3, none⟩ (.string u')) g n op e u' r := by
  obtain ⟨c0, c1, c2, c3, c4, f0, f1, f2, f3, f4⟩ := h
  exact ⟨by go_cell, by go_cell, by go_cell, by go_cell, by go_cell, by simp [go_sem, f0], by simp [go_sem, f1], by simp [go_sem, f2], by simp [go_sem, f3], by simp [go_sem, f4]⟩
theorem Box5.setR {W : World} {g : Nat} {n : ByteArray} {op e : Int} {u r : ByteArray} (h : Box5 W g n op e u r) (r' : ByteArray) : Box5 (W.setCell ⟨g, 4, none⟩ (.string r')) g n op e u r' := by
  obtain ⟨c0, c1, c2, c3, c4, f0, f1, f2, f3, f4⟩ := h
  exact ⟨by go_cell, by go_cell, by go_cell, by go_cell, by go_cell, by simp [go_sem, f0], by simp [go_sem, f1], by simp [go_sem, f2], by simp [go_sem, f3], by simp [go_sem, f4]⟩
theorem Box5.other {W : World} {g g' j : Nat} {n : ByteArray} {op e : Int} {u r : ByteArray} {v : Value} (h : Box5 W g n op e u r) (hne : g ≠ g') : Box5 (W.setCell ⟨g', j, none⟩ v) g n op e u r := by
  obtain ⟨c0, c1, c2, c3, c4, f0, f1, f2, f3, f4⟩ := h
  exact ⟨by go_cell, by go_cell, by go_cell, by go_cell, by go_cell, by simp [go_sem, f0], by simp [go_sem, f1], by simp [go_sem, f2], by simp [go_sem, f3], by simp [go_sem, f4]⟩
end Go.Proofs.YtodbbfgkclkpgaaGreatDoor

namespace Go.Proofs.YtodbbfgkclkpgaaGreatDoor
open Go.RowKit

/-- of some length at most, with numbers that are int's -/
structure Tv.wide (t : Tv) : Prop where
  n : t.n.size ≤ 200000
  u : t.u.size ≤ 200000
  r : t.r.size ≤ 200000
  ok : t.ok

/-- what was read is small -/
theorem small_right {t : Tv} {x : VP.Tm} (h : t.tm = x) (hx : VP.RightT x) : t.small := by
  subst h
  obtain ⟨n, op, e, u, r⟩ := t
  have hn := hx.nm.hi
  have hk := hx.k
  unfold Tv.tm at hn hk
  dsimp only at hn hk
  rw [← size_eq_length] at hn
  rcases hk with ⟨h0, h1, h2, h3⟩ | ⟨h0, hr⟩
  · have h2' : u.size = 0 := by rw [size_eq_length, h2]; rfl
    have h3' : r.size = 0 := by rw [size_eq_length, h3]; rfl
    exact ⟨by show n.size ≤ 1000; omega, by show u.size ≤ 1000; omega, by show r.size ≤ 1000; omega, by unfold Tv.ok; dsimp only; omega⟩
  · have h1 := hr.len
    have h2 := hr.lo
    have h3 := hr.hi
    unfold VP.printP at h1
    rw [List.length_append, List.length_append] at h1
    have hrl : r.data.toList.length ≤ 41 := by
      by_cases h : r.data.toList = []
      · rw [h]; simp
      · rw [if_neg h, List.length_cons] at h1; omega
    exact ⟨by show n.size ≤ 1000; omega, by show u.size ≤ 1000; rw [size_eq_length]; omega, by show r.size ≤ 1000; rw [size_eq_length]; omega, by unfold Tv.ok; dsimp only; omega⟩

def TermIs (s : ByteArray) (w : World) (E : Ending) (w' : World) : Prop :=
  ∃ t : Tv, E = .returned (.tuple #[t.val, .bool (VP.termP s.data.toList).isSome]) ∧ (∀ x, VP.termP s.data.toList = some x → t.tm = x) ∧ t.wide ∧ Below w.heap.size w w'

theorem small0 {n : ByteArray} (h : n.size ≤ 200000) : (Tv.mk n 0 0 ⟨#[]⟩ ⟨#[]⟩).wide := ⟨h, by show 0 ≤ 200000; omega, by show 0 ≤ 200000; omega, by unfold Tv.ok; dsimp only; omega⟩

theorem termIs_no {s : ByteArray} {w w' : World} {t : Tv} (h : VP.termP s.data.toList = none) (ht : t.wide) (hb : Below w.heap.size w w') : TermIs s w (.returned (.tuple #[t.val, .bool false])) w' :=
  ⟨t, by rw [h]; rfl, fun x hx => (by rw [h] at hx; cases hx), ht, hb⟩
theorem termIs_yes {s : ByteArray} {w w' : World} {t : Tv} {x : VP.Tm} (h : VP.termP s.data.toList = some x) (hx : t.tm = x) (ht : t.wide) (hb : Below w.heap.size w w') : TermIs s w (.returned (.tuple #[t.val, .bool true])) w' :=
  ⟨t, by rw [h]; rfl, fun y hy => (by rw [h] at hy; exact hx.trans (Option.some.inj hy)), ht, hb⟩

set_option maxHeartbeats 4000000 in
set_option maxRecDepth 100000 in
theorem term_noBracket (s : ByteArray) (w : World) (hE : Env w) (hs : s.size ≤ 200000) (hc : VP.cutAt 40 (VP.trimP s.data.toList) = none) : Calls Tryz.prog 155 #[.string s] w (TermIs s w) := by
  have hR0 := Box5.new w ⟨#[]⟩ 0 0 ⟨#[]⟩ ⟨#[]⟩ 99
  have hb0 := below_alloc w (.cells #[.string ⟨#[]⟩, .int .i64 0, .int .i64 0, .string ⟨#[]⟩, .string ⟨#[]⟩] 99)
  have hE1 := hE.below hb0
  have hz1 := VP.trimP_length s.data.toList
  have HC := Lib.hid hc
  clear hE hc
  go_enter Tryz.func155, Tryz.ntmps155
  go_wp2_with fail
  refine (call_trim3 s _ (by omega)).mono ?_
  rintro E w1 ⟨s1, rfl, hs1, hb⟩
  have hR1 := hR0.below hb
  have hB := step_below hb0 hb
  replace hE1 := hE1.below hb
  have HS1 := Lib.hid hs1
  have hz : s1.size ≤ 200000 := by
    have h1 := size_eq_length s
    rw [size_eq_length, hs1]; omega
  clear hb hs1 hb0 hR0
  go_wp2_with fail
  refine (call_open_none s1 _ hE1 (by omega) (by rw [HS1.out]; exact HC.out)).mono ?_
  rintro E w2 ⟨rfl, hb⟩
  have hR2 := hR1.below hb
  replace hB := step_below hB hb
  clear hb hE1 hR1
  go_wp2_with fail
  refine (call_trimR3 s1 _ (by omega)).mono ?_
  rintro E w3 ⟨n1, rfl, hn1, hb⟩
  have hR3 := hR2.below hb
  replace hB := step_below hB hb
  have hnz : n1.size ≤ 200000 := by
    have h1 := VP.trimR_length s1.data.toList
    have h2 := size_eq_length s1
    rw [size_eq_length, hn1]; omega
  have HT := Lib.hid (show VP.termP s.data.toList = if VP.nameP n1.data.toList then some ⟨n1.data.toList, 0, 0, [], []⟩ else none by
    unfold VP.termP
    rw [HC.out, hn1, HS1.out])
  have hT3 := Box5.new w3 n1 0 0 ⟨#[]⟩ ⟨#[]⟩ 99
  have hb3 := below_alloc w3 (.cells #[.string n1, .int .i64 0, .int .i64 0, .string ⟨#[]⟩, .string ⟨#[]⟩] 99)
  replace hR3 := hR3.below hb3
  replace hB := step_below hB hb3
  have hg : w.heap.size < w3.heap.size := by
    have h1 := cell_lt hR2.c0
    have h2 := hb.size
    dsimp only at h1
    omega
  clear hb hb3 hR2 hz hn1
  have hd : VP.nameP n1.data.toList = true ∨ VP.nameP n1.data.toList = false := by cases VP.nameP n1.data.toList <;> simp
  go_wp2_with fail
  refine (name_calls n1 _).mono ?_
  rintro E w4 ⟨rfl, hb⟩
  have hR4 := hR3.below hb
  have hT4 := hT3.below hb
  replace hB := step_below hB hb
  clear hb hR3 hT3
  obtain ⟨r0, r1, r2, r3, r4, q0, q1, q2, q3, q4⟩ := hR4
  obtain ⟨t0, t1, t2, t3, t4, _, _, _, _, _⟩ := hT4
  rcases hd with hd | hd
  · have HD := Lib.hid hd
    rw [hd]
    clear hd
    go_wp2_with fail
    exact bodyPost_ret (v := .tuple #[.agg #[.string n1, .int .i64 0, .int .i64 0, .string ⟨#[]⟩, .string ⟨#[]⟩], .bool true]) (by simp [results, Tryz.results155, go_sem, r0, r1, r2, r3, r4]) rfl
      (termIs_yes (by rw [HT.out, HD.out]; rfl) rfl (small0 hnz) (((((hB.setCell (Nat.le_refl _) _).setCell (Nat.le_refl _) _).setCell (Nat.le_refl _) _).setCell (Nat.le_refl _) _).setCell (Nat.le_refl _) _))
  · have HD := Lib.hid hd
    rw [hd]
    clear hd
    go_wp2_with fail
    exact bodyPost_ret (v := .tuple #[.agg #[.string n1, .int .i64 0, .int .i64 0, .string ⟨#[]⟩, .string ⟨#[]⟩], .bool false]) (by simp [results, Tryz.results155, go_sem, r0, r1, r2, r3, r4]) rfl
      (termIs_no (by rw [HT.out, HD.out]; rfl) (small0 hnz) (((((hB.setCell (Nat.le_refl _) _).setCell (Nat.le_refl _) _).setCell (Nat.le_refl _) _).setCell (Nat.le_refl _) _).setCell (Nat.le_refl _) _))

/-- in which order the signs are asked for -/
def signAt (j : Nat) : Nat := if j = 0 then 1 else if j = 1 then 2 else if j = 2 then 4 else if j = 3 then 5 else 3
theorem signAt_rng (j : Nat) : 1 ≤ signAt j ∧ signAt j < 6 := by
  unfold signAt
  (repeat' split) <;> omega
theorem signAt_all (l : List UInt8) (h : ∀ j, j < 5 → hasPre (signAt j) l = false) : ∀ k, 1 ≤ k → k < 6 → hasPre k l = false := by
  intro k h1 h6
  have hk : k = 1 ∨ k = 2 ∨ k = 3 ∨ k = 4 ∨ k = 5 := by omega
  rcases hk with rfl | rfl | rfl | rfl | rfl
  · exact h 0 (by omega)
  · exact h 1 (by omega)
  · exact h 4 (by omega)
  · exact h 2 (by omega)
  · exact h 3 (by omega)

theorem closes_iff (l : List UInt8) : closes l = true ↔ l.getLast? = some 41 := by unfold closes; simp

set_option maxHeartbeats 8000000 in
set_option maxRecDepth 100000 in
theorem term_bracket (s : ByteArray) (w : World) (hE : Env w) (hS : EnvS w) (hs : s.size ≤ 200000) (a b : List UInt8) (hc : VP.cutAt 40 (VP.trimP s.data.toList) = some (a, b)) : Calls Tryz.prog 155 #[.string s] w (TermIs s w) := by
  have hR0 := Box5.new w ⟨#[]⟩ 0 0 ⟨#[]⟩ ⟨#[]⟩ 99
  have hb0 := below_alloc w (.cells #[.string ⟨#[]⟩, .int .i64 0, .int .i64 0, .string ⟨#[]⟩, .string ⟨#[]⟩] 99)
  have HE0 := Lib.hid hE
  have hE1 := hE.below hb0
  have hS1 := hS.below hb0
  have hsg0 : 3 < w.heap.size := cell_lt (hS 0 (by omega))
  have hz1 := VP.trimP_length s.data.toList
  have HC := Lib.hid hc
  have hlen := Lib.hid (show a.length + b.length ≤ (VP.trimP s.data.toList).length by
    have h1 := (VP.cutAt_some hc).1
    rw [h1, List.length_append, List.length_cons]
    omega)
  clear hE hS hc
  go_enter Tryz.func155, Tryz.ntmps155
  go_wp2_with fail
  refine (call_trim3 s _ (by omega)).mono ?_
  rintro E w1 ⟨s1, rfl, hs1, hb⟩
  have hR1 := hR0.below hb
  have hB := step_below hb0 hb
  replace hE1 := hE1.below hb
  replace hS1 := hS1.below hb
  have HS1 := Lib.hid hs1
  have hz : s1.size ≤ 200000 := by
    have h1 := size_eq_length s
    rw [size_eq_length, hs1]; omega
  have hal : a.length ≤ 200000 := by
    have h1 := hlen.out
    have h2 := size_eq_length s
    omega
  have hbl : b.length ≤ 200000 := by
    have h1 := hlen.out
    have h2 := size_eq_length s
    omega
  clear hb hs1 hb0 hR0 hlen hz1
  go_wp2_with fail
  refine (call_open_some s1 _ hE1 (by omega) a b (by rw [HS1.out]; exact HC.out)).mono ?_
  rintro E w2 ⟨A, B, rfl, hA, hBd, hb⟩
  have hR2 := hR1.below hb
  replace hB := step_below hB hb
  replace hE1 := hE1.below hb
  replace hS1 := hS1.below hb
  have HA := Lib.hid hA
  have HBd := Lib.hid hBd
  have hAz : A.size ≤ 200000 := by rw [size_eq_length, hA]; exact hal
  have hBz : B.size ≤ 200000 := by rw [size_eq_length, hBd]; exact hbl
  clear hb hR1 hA hBd hal hbl
  go_wp2_with fail
  refine (call_trimR3 A _ (by omega)).mono ?_
  rintro E w3 ⟨n1, rfl, hn1, hb⟩
  have hR3 := hR2.below hb
  replace hB := step_below hB hb
  replace hE1 := hE1.below hb
  replace hS1 := hS1.below hb
  have hnz : n1.size ≤ 200000 := by
    have h1 := VP.trimR_length A.data.toList
    have h2 := size_eq_length A
    rw [size_eq_length, hn1]; omega
  have HT := Lib.hid (show VP.termP s.data.toList = if VP.nameP n1.data.toList then (if B.data.toList.getLast? = some 41 then VP.innerP n1.data.toList (VP.trimP B.data.toList.dropLast) else none) else none by
    unfold VP.termP
    rw [HC.out, hn1, HA.out, HBd.out])
  have hT3 := Box5.new w3 n1 0 0 ⟨#[]⟩ ⟨#[]⟩ 99
  have hb3 := below_alloc w3 (.cells #[.string n1, .int .i64 0, .int .i64 0, .string ⟨#[]⟩, .string ⟨#[]⟩] 99)
  replace hR3 := hR3.below hb3
  replace hB := step_below hB hb3
  replace hE1 := hE1.below hb3
  replace hS1 := hS1.below hb3
  have hg : w.heap.size < w3.heap.size := by
    have h1 := cell_lt hR2.c0
    have h2 := hb.size
    dsimp only at h1
    omega
  clear hb hb3 hR2 hz hn1 HC HS1 HA HBd hAz
  have hd : VP.nameP n1.data.toList = true ∨ VP.nameP n1.data.toList = false := by cases VP.nameP n1.data.toList <;> simp
  go_wp2_with fail
  refine (name_calls n1 _).mono ?_
  rintro E w4 ⟨rfl, hb⟩
  have hR4 := hR3.below hb
  have hT4 := hT3.below hb
  replace hB := step_below hB hb
  replace hE1 := hE1.below hb
  replace hS1 := hS1.below hb
  clear hb hR3 hT3
  rcases hd with hd | hd
  · have HD := Lib.hid hd
    rw [hd]
    clear hd
    go_wp2_with fail
    refine (call_close B _ (by omega)).mono ?_
    rintro E w5 ⟨b1, rfl, hb1, rfl⟩
    have hb1z : b1.size ≤ 200000 := by
      have h1 := size_eq_length B
      rw [size_eq_length, hb1]
      split
      · rw [List.length_dropLast]; omega
      · omega
    have HB1 := Lib.hid hb1
    obtain ⟨okS, hokS⟩ : ∃ okS, closes B.data.toList = okS := ⟨_, rfl⟩
    have HOK := Lib.hid hokS
    rw [hokS]
    clear hb1 hokS
    go_wp2_with fail
    refine (call_trim3 b1 _ (by omega)).mono ?_
    rintro E w6 ⟨m, rfl, hm, hb⟩
    have hR6 := hR4.below hb
    have hT6 := hT4.below hb
    replace hB := step_below hB hb
    replace hE1 := hE1.below hb
    replace hS1 := hS1.below hb
    have hmz : m.size ≤ 200000 := by
      have h1 := VP.trimP_length b1.data.toList
      have h2 := size_eq_length b1
      rw [size_eq_length, hm]; omega
    have HM := Lib.hid hm
    clear hb hR4 hT4 hm hb1z hBz
    have hsz6 : w3.heap.size < w6.heap.size := by
      have h1 := cell_lt hT6.c0
      exact h1
    go_upto_block 0 with fail
    go_cut [5] (fun s5 wx => ∃ (op : Nat) (m2 : ByteArray), s5 = .string m2 ∧ op < 6 ∧ m2.size ≤ 200000 ∧ Hid (VP.opP m.data.toList = ((op : Int), m2.data.toList)) ∧ Box5 wx w.heap.size ⟨#[]⟩ 0 0 ⟨#[]⟩ ⟨#[]⟩ ∧ Box5 wx w3.heap.size n1 op 0 ⟨#[]⟩ ⟨#[]⟩ ∧ Below w.heap.size w wx)
    case first =>
      have hb7 := below_alloc w6 (.cells #[.int .i64 1, .int .i64 2, .int .i64 4, .int .i64 5, .int .i64 3] 3)
      have harr : ∀ j, j < 5 → (w6.alloc (.cells #[.int .i64 1, .int .i64 2, .int .i64 4, .int .i64 5, .int .i64 3] 3)).cell? ⟨w6.heap.size, j, none⟩ = some (.int .i64 (signAt j : Nat)) := by
        intro j hj
        have h : j = 0 ∨ j = 1 ∨ j = 2 ∨ j = 3 ∨ j = 4 := by omega
        rcases h with rfl | rfl | rfl | rfl | rfl <;> (rw [World.cell?_alloc_at _ _ _ _ rfl]; rfl)
      have HARR := Lib.hid harr
      have hR7 := hR6.below hb7
      have hT7 := hT6.below hb7
      have hB7 := step_below hB hb7
      have hS7 := Lib.hid (hS1.below hb7)
      clear harr hR6 hT6 hB hS1 hE1 hb7
      go_wp2_with fail
      have hne1 : ¬ 3 = w3.heap.size := by omega
      have hne2 : ¬ w3.heap.size = 3 := by omega
      have hw67 : w3.heap.size < w6.heap.size + 1 := by omega
      generalize w6.alloc (.cells #[.int .i64 1, .int .i64 2, .int .i64 4, .int .i64 5, .int .i64 3] 3) = W7 at HARR hR7 hT7 hB7 hS7 ⊢
      go_loop [5, 40] (fun s5 i => ∃ j : Nat, j ≤ 5 ∧ i = .int .i64 j ∧ s5 = .string m ∧ Hid (∀ i, i < j → hasPre (signAt i) m.data.toList = false)) (fun _ i => 5 - (intOf i).toNat)
      case atStart => exact ⟨0, Nat.zero_le _, rfl, rfl, Lib.hid (fun i hi => by omega)⟩
      case round =>
        obtain ⟨j, hj, rfl, rfl, hno⟩ := hrel
        by_cases hjt : j < 5
        · have e0 := HARR.out j hjt
          obtain ⟨hk1, hk6⟩ := signAt_rng j
          obtain ⟨k, hk⟩ : ∃ k, signAt j = k := ⟨_, rfl⟩
          have HK := Lib.hid hk
          rw [hk] at e0 hk1 hk6
          have e1 := hS7.out k hk6
          obtain ⟨sg, hsg⟩ : ∃ sg, signS k = sg := ⟨_, rfl⟩
          have HSG := Lib.hid (show sg.data.toList = VP.signP (k : Int) by rw [← hsg]; rfl)
          have hsgz : sg.size ≤ 2 := by rw [← hsg]; exact signS_size k
          rw [hsg] at e1
          clear hk hsg
          have ix : ∀ W : World, (Instr.indexAt 199 (.pointer (some ⟨3, 0, none⟩)) (.int .i64 (k : Int))).run Tryz.prog W = .ok (.pointer (some ⟨3, k, none⟩)) W := fun W => signs_at W k hk6
          have hp : hasPre k m.data.toList = true ∨ hasPre k m.data.toList = false := by cases hasPre k m.data.toList <;> simp
          go_wp2_with fail
          refine (call_pre m sg k HSG.out _).mono ?_
          rintro E w8 ⟨rfl, rfl⟩
          rcases hp with hp | hp
          · obtain ⟨hop, hle⟩ := opP_pre k m.data.toList hk1 hk6 hp
            have HOP := Lib.hid hop
            have hsl : sg.size ≤ m.size := by rw [size_eq_length, HSG.out, size_eq_length]; exact hle
            have HE := Lib.hid (show (m.extract sg.size m.size).data.toList = m.data.toList.drop (VP.signP (k : Int)).length by rw [Lib.extract_to_end, size_eq_length sg, HSG.out])
            have hez : (m.extract sg.size m.size).size ≤ 200000 := by rw [size_eq_length, HE.out, List.length_drop, ← size_eq_length]; omega
            have HR7 := Lib.hid hR7
            have HT7 := Lib.hid hT7
            obtain ⟨t0, t1, t2, t3, t4, p0, p1, p2, p3, p4⟩ := hT7
            rw [hp]
            clear hp hop hle hR7
            go_wp2_with fail
            go_region
            all_goals
              go_wp2_with fail
              go_meet
              case rel =>
                refine ⟨k, _, rfl, hk6, hez, Lib.hid (by rw [HOP.out, HE.out]), ((HR7.out.below (below_drew _)).other (by omega)), ((HT7.out.below (below_drew _)).setOp _), ?_⟩
                exact hB7.drew.setCell (by simp; omega) _
          · have hp' := Lib.hid hp
            rw [hp]
            clear hp
            go_wp2_with fail
            go_round
            case rel => exact ⟨j + 1, by omega, by go_num, rfl, Lib.hid (fun i hi => by
              rcases Nat.lt_succ_iff_lt_or_eq.1 hi with h | h
              · exact hno.out i h
              · rw [h, HK.out]; exact hp'.out)⟩
            case measure => simp [intOf]; omega
        · obtain rfl : j = 5 := by omega
          have HOP := Lib.hid (opP_nopre m.data.toList (signAt_all m.data.toList hno.out))
          go_wp2_with fail
          go_meet
          case rel => exact ⟨0, m, rfl, by omega, hmz, Lib.hid HOP.out, hR7, hT7, hB7⟩
    case rest =>
      clear hR6 hT6 hB hS1 hE1 hsz6
      obtain ⟨op, m2, rfl, hop6, hm2z, hop, hRx, hTx, hBx⟩ := hcut
      have hEx := HE0.out.below hBx
      go_wp2_with fail
      refine (call_trim3 m2 _ (by omega)).mono ?_
      rintro E w7 ⟨v, rfl, hv, hb⟩
      have HV := Lib.hid hv
      have hR7 := hRx.below hb
      have hT7 := hTx.below hb
      have hB7 := step_below hBx hb
      replace hEx := hEx.below hb
      clear hb hv hRx hTx hBx
      -- what it comes to
      have HT2 := Lib.hid (show VP.termP s.data.toList = if okS then (if op = 0 then none else (VP.parseP v.data.toList).map fun x => ⟨n1.data.toList, (op : Int), x.1, x.2.1, x.2.2⟩) else none by
        rw [HT.out, HD.out, if_pos rfl]
        have h1 := HOK.out
        cases okS with
        | false =>
          have h2 : ¬ B.data.toList.getLast? = some 41 := fun h => by rw [(closes_iff _).2 h] at h1; cases h1
          rw [if_neg h2]
          rfl
        | true =>
          have h2 := (closes_iff _).1 h1
          have h3 : m.data.toList = VP.trimP B.data.toList.dropLast := by rw [HM.out, HB1.out, h1]; rfl
          rw [if_pos h2, if_pos rfl, ← h3]
          unfold VP.innerP
          rw [hop.out, HV.out]
          by_cases h0 : op = 0
          · rw [if_pos h0, if_pos (show ((op : Int), m2.data.toList).1 = 0 by show (op : Int) = 0; omega)]
          · rw [if_neg h0, if_neg (show ¬ ((op : Int), m2.data.toList).1 = 0 by show ¬ (op : Int) = 0; omega)])
      clear HT HD HOK HM HB1 HV
      go_wp2_with fail
      refine (parse_calls v _ hEx).mono ?_
      rintro E w8 ⟨hb, hP⟩
      have hR8 := hR7.below hb
      have hT8 := hT7.below hb
      have hB8 := step_below hB7 hb
      have hz8 := cell_lt hT8.c0
      dsimp only at hz8
      clear hb hR7 hT7 hB7 hEx hop
      have hfin : ∃ (e : Int) (u r : ByteArray) (ev : Value) (good : Bool), E = .returned (.tuple #[.agg #[.int .i64 e, .string u, .string r], ev]) ∧
          ((good = true ∧ ev = .nilIface ∧ VP.parseP v.data.toList = some (e, u.data.toList, r.data.toList)) ∨ (good = false ∧ ev = .iface 32 (.int .i64 3) ∧ VP.parseP v.data.toList = none)) ∧ (Tv.mk n1 op e u r).wide := by
        rcases hP with ⟨hp, rfl⟩ | ⟨e, u, r, hp, rfl⟩
        · exact ⟨0, ⟨#[]⟩, ⟨#[]⟩, _, false, rfl, .inr ⟨rfl, rfl, hp⟩, hnz, by show 0 ≤ 200000; omega, by show 0 ≤ 200000; omega, by unfold Tv.ok; dsimp only; omega⟩
        · have hr := VP.parseP_right hp
          have h1 := hr.len
          have h2 := hr.lo
          have h3 := hr.hi
          dsimp only at h1 h2 h3
          unfold VP.printP at h1
          rw [List.length_append, List.length_append] at h1
          have hrl : r.data.toList.length ≤ 41 := by
            by_cases h : r.data.toList = []
            · rw [h]; simp
            · rw [if_neg h, List.length_cons] at h1; omega
          exact ⟨e, u, r, _, true, rfl, .inl ⟨rfl, rfl, hp⟩, hnz, by show u.size ≤ 200000; rw [size_eq_length]; omega, by show r.size ≤ 200000; rw [size_eq_length]; omega, by unfold Tv.ok; dsimp only; omega⟩
      clear hP
      obtain ⟨e, u, r, ev, good, rfl, hgood, hsm⟩ := hfin
      have HSM := Lib.hid hsm
      clear hsm
      go_upto_region 17 with fail
      have hb9 := below_alloc w8 (.cells #[.int .i64 e, .string u, .string r] 23)
      have hR9 := hR8.below hb9
      have hT9 := hT8.below hb9
      have hB9 := step_below hB8 hb9
      have v0 : (w8.alloc (.cells #[.int .i64 e, .string u, .string r] 23)).cell? ⟨w8.heap.size, 0, none⟩ = some (.int .i64 e) := by go_cell
      have v1 : (w8.alloc (.cells #[.int .i64 e, .string u, .string r] 23)).cell? ⟨w8.heap.size, 1, none⟩ = some (.string u) := by go_cell
      have v2 : (w8.alloc (.cells #[.int .i64 e, .string u, .string r] 23)).cell? ⟨w8.heap.size, 2, none⟩ = some (.string r) := by go_cell
      clear hb9 hR8 hT8 hB8
      generalize w8.alloc (.cells #[.int .i64 e, .string u, .string r] 23) = W9 at hR9 hT9 hB9 v0 v1 v2 ⊢
      have hT10 := ((hT9.setE e).setU u).setR r
      have hR10 : Box5 (((W9.setCell ⟨w3.heap.size, 2, none⟩ (.int .i64 e)).setCell ⟨w3.heap.size, 3, none⟩ (.string u)).setCell ⟨w3.heap.size, 4, none⟩ (.string r)) w.heap.size ⟨#[]⟩ 0 0 ⟨#[]⟩ ⟨#[]⟩ := ((hR9.other (by omega)).other (by omega)).other (by omega)
      have hB10 := ((hB9.setCell (p := ⟨w3.heap.size, 2, none⟩) (by simp; omega) (.int .i64 e)).setCell (p := ⟨w3.heap.size, 3, none⟩) (by simp; omega) (.string u)).setCell (p := ⟨w3.heap.size, 4, none⟩) (by simp; omega) (.string r)
      obtain ⟨t0, t1, t2, t3, t4, p0, p1, p2, p3, p4⟩ := hT9
      clear hB9
      go_wp2_with fail
      clear t0 t1 t2 t3 t4 p0 p1 p2 p3 p4 v0 v1 v2 hR9
      generalize ((W9.setCell ⟨w3.heap.size, 2, none⟩ (.int .i64 e)).setCell ⟨w3.heap.size, 3, none⟩ (.string u)).setCell ⟨w3.heap.size, 4, none⟩ (.string r) = W10 at hT10 hR10 hB10 ⊢
      obtain ⟨t0, t1, t2, t3, t4, p0, p1, p2, p3, p4⟩ := hT10
      obtain ⟨r0, r1, r2, r3, r4, q0, q1, q2, q3, q4⟩ := hR10
      have hBf : Below w.heap.size w (((((W10.setCell ⟨w.heap.size, 0, none⟩ (.string n1)).setCell ⟨w.heap.size, 1, none⟩ (.int .i64 op)).setCell ⟨w.heap.size, 2, none⟩ (.int .i64 e)).setCell ⟨w.heap.size, 3, none⟩ (.string u)).setCell ⟨w.heap.size, 4, none⟩ (.string r)).drew :=
        (((((hB10.setCell (Nat.le_refl _) _).setCell (Nat.le_refl _) _).setCell (Nat.le_refl _) _).setCell (Nat.le_refl _) _).setCell (Nat.le_refl _) _).drew
      have HBf := Lib.hid hBf
      clear hBf hB10
      cases okS with
      | false =>
        have HTn := Lib.hid (show VP.termP s.data.toList = none by rw [HT2.out]; rfl)
        go_region
        all_goals
          go_wp2_with fail
          exact bodyPost_ret (v := .tuple #[(Tv.mk n1 op e u r).val, .bool false]) (by simp [results, Tryz.results155, go_sem, r0, r1, r2, r3, r4, Tv.val]) rfl (termIs_no HTn.out HSM.out HBf.out)
      | true =>
        by_cases h0 : op = 0
        · have HTn := Lib.hid (show VP.termP s.data.toList = none by rw [HT2.out, if_pos rfl, if_pos h0])
          have hob : ((op : Int) == 0) = true := by rw [beq_iff_eq]; omega
          have hob' : ((op : Int) != 0) = false := bne_of_true hob
          clear h0
          go_region
          all_goals
            go_wp2_with fail
            exact bodyPost_ret (v := .tuple #[(Tv.mk n1 op e u r).val, .bool false]) (by simp [results, Tryz.results155, go_sem, r0, r1, r2, r3, r4, Tv.val]) rfl (termIs_no HTn.out HSM.out HBf.out)
        · have hob : ((op : Int) == 0) = false := by rw [beq_eq_false_iff_ne]; omega
          have hob' : ((op : Int) != 0) = true := bne_of_false hob
          rcases hgood with ⟨rfl, rfl, hp⟩ | ⟨rfl, rfl, hp⟩
          · have HTy := Lib.hid (show VP.termP s.data.toList = some ⟨n1.data.toList, (op : Int), e, u.data.toList, r.data.toList⟩ by rw [HT2.out, if_pos rfl, if_neg h0, hp]; rfl)
            clear h0 hp
            go_region
            all_goals
              go_wp2_with fail
              exact bodyPost_ret (v := .tuple #[(Tv.mk n1 op e u r).val, .bool true]) (by simp [results, Tryz.results155, go_sem, r0, r1, r2, r3, r4, Tv.val]) rfl (termIs_yes HTy.out rfl HSM.out HBf.out)
          · have HTn := Lib.hid (show VP.termP s.data.toList = none by rw [HT2.out, if_pos rfl, if_neg h0, hp]; rfl)
            clear h0 hp
            go_region
            all_goals
              go_wp2_with fail
              exact bodyPost_ret (v := .tuple #[(Tv.mk n1 op e u r).val, .bool false]) (by simp [results, Tryz.results155, go_sem, r0, r1, r2, r3, r4, Tv.val]) rfl (termIs_no HTn.out HSM.out HBf.out)
  · have HD := Lib.hid hd
    rw [hd]
    clear hd
    obtain ⟨r0, r1, r2, r3, r4, q0, q1, q2, q3, q4⟩ := hR4
    obtain ⟨t0, t1, t2, t3, t4, _, _, _, _, _⟩ := hT4
    go_wp2_with fail
    exact bodyPost_ret (v := .tuple #[.agg #[.string n1, .int .i64 0, .int .i64 0, .string ⟨#[]⟩, .string ⟨#[]⟩], .bool false]) (by simp [results, Tryz.results155, go_sem, r0, r1, r2, r3, r4]) rfl
      (termIs_no (by rw [HT.out, HD.out]; rfl) (small0 hnz) (((((hB.setCell (Nat.le_refl _) _).setCell (Nat.le_refl _) _).setCell (Nat.le_refl _) _).setCell (Nat.le_refl _) _).setCell (Nat.le_refl _) _))

theorem term_calls (s : ByteArray) (w : World) (hE : Env w) (hS : EnvS w) (hs : s.size ≤ 200000) : Calls Tryz.prog 155 #[.string s] w (TermIs s w) := by
  cases hc : VP.cutAt 40 (VP.trimP s.data.toList) with
  | none => exact term_noBracket s w hE hs hc
  | some p => exact term_bracket s w hE hS hs p.1 p.2 hc
end Go.Proofs.YtodbbfgkclkpgaaGreatDoor
