/- keep.short: is a version short enough to be held. · Fields, as lines; what a package says of itself: plain Lean over lists of bytes. · Paths: what the program asks of one, and what the reference asks, are the same: plain Lean. · record.path, record.Path; the reference's Path: which paths may be. · The reference's Path: which paths may be. · What the laws share: short; and a call's contract as a word. · The reference's Parse: the version that a text is, or that it is none. · The reference's Parse: the walk. -/
import Derived.Test.YtodbbfgkclkpgaaGreatDoorABK5
import Derived.Test.YtodbbfgkclkpgaaGreatDoorABK2
import Derived.Lib.IndexMore
import Derived.Deep.Cut
import Derived.Deep.RegionHeld3
import Derived.Deep.DeepCutAuto
namespace Go.Proofs.YtodbbfgkclkpgaaGreatDoor
open Go.RowKit

def shortB (u r : ByteArray) : Bool := decide (u.size ≤ 100) && decide (r.size ≤ 100)

def BoolIs (b : Bool) (w : World) (E : Ending) (w' : World) : Prop := E = .returned (.bool b) ∧ Below w.heap.size w w'

set_option maxRecDepth 100000 in
theorem short_calls (e : Int) (u r : ByteArray) (w : World) :
    Calls Tryz.prog 28 #[.agg #[.int .i64 e, .string u, .string r]] w (BoolIs (shortB u r) w) := by
  have hb0 := below_alloc w (.cells #[.int .i64 e, .string u, .string r] 23)
  by_cases h1 : u.size ≤ 100
  · by_cases h2 : r.size ≤ 100
    · have F := Lib.hid (show shortB u r = true by unfold shortB; simp [h1, h2])
      go_enter Tryz.func28, Tryz.ntmps28
      go_wp2
      go_ret
      exact ⟨ret_bool (by rw [F.out] <;> simp <;> omega), hb0⟩
    · have F := Lib.hid (show shortB u r = false by unfold shortB; simp [h2])
      go_enter Tryz.func28, Tryz.ntmps28
      go_wp2
      go_ret
      exact ⟨ret_bool (by rw [F.out] <;> simp <;> omega), hb0⟩
  · have F := Lib.hid (show shortB u r = false by unfold shortB; simp [h1])
    go_enter Tryz.func28, Tryz.ntmps28
    go_wp2
    go_ret
    exact ⟨ret_bool (by rw [F.out] <;> simp <;> omega), hb0⟩

end Go.Proofs.YtodbbfgkclkpgaaGreatDoor

namespace Go.Proofs.YtodbbfgkclkpgaaGreatDoor.VP

def allAt (n : Nat) (p : Nat → Bool) : Bool := (List.range n).all p
theorem allAt_true {n : Nat} {p : Nat → Bool} (h : ∀ i, i < n → p i = true) : allAt n p = true := by
  unfold allAt
  rw [List.all_eq_true]
  exact fun i hi => h i (List.mem_range.1 hi)
theorem allAt_false {n : Nat} {p : Nat → Bool} {i : Nat} (hi : i < n) (h : p i = false) : allAt n p = false := by
  unfold allAt
  rw [List.all_eq_false]
  exact ⟨i, List.mem_range.2 hi, by rw [h]; simp⟩
theorem allAt_iff {n : Nat} {p : Nat → Bool} : allAt n p = true ↔ ∀ i, i < n → p i = true := by
  unfold allAt
  rw [List.all_eq_true]
  exact ⟨fun h i hi => h i (List.mem_range.2 hi), fun h i hi => h i (List.mem_range.1 hi)⟩

/-- a field: its name, and what it says -/
structure Fd where
  n : List UInt8
  v : List UInt8
deriving DecidableEq

def okN (c : UInt8) : Bool := decide (33 ≤ c.toNat) && decide (c.toNat ≤ 126) && !(c == 58)
def fnameP (l : List UInt8) : Bool := l.all okN && decide (1 ≤ l.length) && decide (l.length ≤ 24) && !(l.head? == some 35) && !(l.head? == some 45)

/-- a text without bytes of a kind at both ends -/
def cutBoth (p : UInt8 → Bool) (l : List UInt8) : List UInt8 := ((l.reverse.dropWhile p).reverse).dropWhile p
def okL (c : UInt8) : Bool := (decide (32 ≤ c.toNat) || c == 9) && !(c == 127)
def bl (c : UInt8) : Bool := c == 32 || c == 9
def flineP (l : List UInt8) : Bool := l.all okL && decide (cutBoth bl l = l)
/-- what a field says may be said -/
def valueP (v : List UInt8) : Bool :=
  match pieces 10 v with
  | [] => true
  | a :: r => flineP a && r.all (fun s => flineP s && !s.isEmpty)

def lowC (c : UInt8) : UInt8 := if 65 ≤ c.toNat ∧ c.toNat ≤ 90 then c + 32 else c
def smallP (l : List UInt8) : List UInt8 := l.map lowC

def restL (s : List UInt8) : List UInt8 := 32 :: ((if s.head? = some 46 then 46 :: s else s) ++ [10])
def firstL2 (a : List UInt8) : List UInt8 := if a = [] then [10] else 32 :: (a ++ [10])
def linesL : List (List UInt8) → List UInt8
  | [] => []
  | a :: r => firstL2 a ++ r.flatMap restL
def fieldL (f : Fd) : List UInt8 := f.n ++ 58 :: linesL (pieces 10 f.v)
def textL (l : List Fd) : List UInt8 := l.flatMap fieldL

def fieldOk (l : List Fd) (i : Nat) : Bool :=
  match l[i]? with
  | none => true
  | some f => fnameP f.n && !((l.take i).any fun g => decide (smallP g.n = smallP f.n)) && valueP f.v
/-- may fields be a stanza -/
def stanzaP (l : List Fd) : Bool := decide (1 ≤ l.length) && decide (l.length ≤ 40) && allAt l.length (fieldOk l) && decide ((textL l).length ≤ 4000)

/-! paths -/
def okP (c : UInt8) : Bool := decide (33 ≤ c.toNat) && decide (c.toNat ≤ 126)
-- (letters: lett)
def startsP : List UInt8 → Bool
  | [] => false
  | c :: _ => lett c || dig c
/-- a / ahead of a /, or at the end -/
def slashes : List UInt8 → Bool
  | [] => false
  | [c] => c == 47
  | c :: d :: l => (c == 47 && d == 47) || slashes (d :: l)
def pathP (l : List UInt8) : Bool := l.all (fun c => okP c && !(c == 44)) && !slashes l && decide (1 ≤ l.length) && decide (l.length ≤ 60) && startsP l
def pathOk (l : List (List UInt8)) (i : Nat) : Bool :=
  match l[i]? with
  | none => true
  | some s => pathP s && !((l.take i).any fun t => decide (t = s))
def pathsP (l : List (List UInt8)) : Bool := allAt l.length (pathOk l) && decide (l.length ≤ 20)

/-! what a package says of itself -/
structure Pk where
  n : List UInt8
  e : Int
  u : List UInt8
  r : List UInt8
  dep : List (List Tm)
  ahead : List (List Tm)
  ag : List Tm
  br : List Tm
  re : List Tm
  pr : List Tm
  se : List (List UInt8)
  li : List (List UInt8)

def flatP (l : List Tm) : Bool := askedP (l.map fun t => [t])
def provP (t : Tm) : Bool := decide (t.op = 0) || decide (t.op = 3)
def saysP (p : Pk) : Bool :=
  p.pr.all provP && nameP p.n && rightP p.e p.u p.r && askedP p.dep && askedP p.ahead && flatP p.ag && flatP p.br && flatP p.re && flatP p.pr && pathsP p.se && pathsP p.li

def linesOf (l : List (List UInt8)) : List UInt8 := l.flatMap fun s => 10 :: s
theorem join_lines (l : List (List UInt8)) : joinP [10] ([] :: l) = linesOf l := by
  have key : ∀ (a : List UInt8) (l : List (List UInt8)), joinP [10] (a :: l) = a ++ linesOf l := by
    intro a l
    induction l generalizing a with
    | nil => simp [joinP, linesOf]
    | cons b l ih =>
      rw [joinP, ih]
      simp [linesOf]
  exact key [] l
end Go.Proofs.YtodbbfgkclkpgaaGreatDoor.VP

namespace Go.Proofs.YtodbbfgkclkpgaaGreatDoor.VP

theorem contains_cons (c : UInt8) (l sub : List UInt8) : Lib.contains (c :: l) sub = (sub.isPrefixOf (c :: l) || Lib.contains l sub) := by
  unfold Lib.contains
  rw [show Lib.index (c :: l) sub = if sub.isPrefixOf (c :: l) then 0 else if Lib.index l sub == -1 then -1 else Lib.index l sub + 1 from rfl]
  have hge := Lib.index_ge l sub
  cases h : sub.isPrefixOf (c :: l) with
  | true => simp
  | false =>
    simp only [Bool.false_or]
    by_cases h1 : Lib.index l sub = -1
    · simp [h1]
    · have : (Lib.index l sub == -1) = false := by rw [beq_eq_false_iff_ne]; exact h1
      rw [this]
      simp only [Bool.false_eq_true, if_false]
      rw [decide_eq_true (by omega : (0 : Int) ≤ Lib.index l sub + 1), decide_eq_true (by omega : (0 : Int) ≤ Lib.index l sub)]

theorem slashes_eq (l : List UInt8) : slashes l = (Lib.contains l [47, 47] || l.getLast? == some 47) := by
  induction l with
  | nil => rfl
  | cons c l ih =>
    cases l with
    | nil =>
      rw [contains_cons]
      show (c == 47) = _
      have e1 : ([47, 47] : List UInt8).isPrefixOf [c] = false := by simp [List.isPrefixOf]
      have e2 : Lib.contains [] [47, 47] = false := by rfl
      rw [e1, e2]
      simp
    | cons d l =>
      rw [contains_cons]
      show ((c == 47 && d == 47) || slashes (d :: l)) = _
      rw [ih]
      have e1 : ([47, 47] : List UInt8).isPrefixOf (c :: d :: l) = (c == 47 && d == 47) := by
        simp [List.isPrefixOf, BEq.comm (a := (47 : UInt8))]
      rw [e1, List.getLast?_cons_cons, Bool.or_assoc]

theorem idx_cons (c : UInt8) (l : List UInt8) (x : UInt8) : decide (0 ≤ Lib.indexByte (c :: l) x) = (c == x || decide (0 ≤ Lib.indexByte l x)) := by
  rw [show Lib.indexByte (c :: l) x = if c == x then 0 else if Lib.indexByte l x == -1 then -1 else Lib.indexByte l x + 1 from rfl]
  have hge := Lib.indexByte_ge l x
  cases h : c == x with
  | true => simp
  | false =>
    simp only [Bool.false_or, Bool.false_eq_true, if_false]
    by_cases h1 : Lib.indexByte l x = -1
    · simp [h1]
    · have : (Lib.indexByte l x == -1) = false := by rw [beq_eq_false_iff_ne]; exact h1
      rw [this]
      simp only [Bool.false_eq_true, if_false]
      rw [decide_eq_true (by omega : (0 : Int) ≤ Lib.indexByte l x + 1), decide_eq_true (by omega : (0 : Int) ≤ Lib.indexByte l x)]

theorem all_ok (l : List UInt8) : (l.all fun c => okP c && !(c == 44)) = (l.all okP && !decide (0 ≤ Lib.indexByte l 44)) := by
  induction l with
  | nil => rfl
  | cons c l ih =>
    rw [List.all_cons, List.all_cons, ih, idx_cons]
    cases okP c <;> cases (c == 44) <;> cases l.all okP <;> cases decide (0 ≤ Lib.indexByte l 44) <;> rfl

/-- what the program asks -/
theorem pathP_prog (l : List UInt8) : pathP l = (l.all okP && (decide (1 ≤ l.length) && (decide (l.length ≤ 60) && (!Lib.contains l [47, 47] && (!decide (0 ≤ Lib.indexByte l 44) && (!(l.getLast? == some 47) && startsP l)))))) := by
  unfold pathP
  rw [slashes_eq, all_ok]
  cases l.all okP <;> cases decide (1 ≤ l.length) <;> cases decide (l.length ≤ 60) <;> cases Lib.contains l [47, 47] <;> cases decide (0 ≤ Lib.indexByte l 44) <;> cases (l.getLast? == some 47) <;> cases startsP l <;> rfl

end Go.Proofs.YtodbbfgkclkpgaaGreatDoor.VP

namespace Go.Proofs.YtodbbfgkclkpgaaGreatDoor
open Go.RowKit

theorem last_get (s : ByteArray) (n : Nat) (h : s.size = n + 1) : s.data.toList.getLast? = some (s[n]'(by omega)) := by
  have hl := size_eq_length s
  have e : s.data.toList.length - 1 = n := by omega
  rw [List.getLast?_eq_getElem?, e, List.getElem?_eq_getElem (by omega)]
  rfl
theorem okP_at {s : ByteArray} {k : Nat} (hlt : k < s.size) (h : VP.okP s[k] = false) : s.data.toList.all VP.okP = false := by
  rw [← List.take_append_drop k s.data.toList, drop_cons s k hlt, List.all_append, List.all_cons, h]
  simp
theorem startsP_eq (s : ByteArray) (h : 0 < s.size) : VP.startsP s.data.toList = (VP.lett s[0] || VP.dig s[0]) := by
  rw [list_cons s h]; rfl

set_option maxHeartbeats 6000000 in
set_option maxRecDepth 100000 in
theorem path_calls (s : ByteArray) (w : World) (hE : Env w) (hs : s.size ≤ 1000000) : Calls Tryz.prog 74 #[.string s] w (BoolIs (VP.pathP s.data.toList) w) := by
  obtain ⟨bS, hbS⟩ : ∃ b, Lib.contains s.data.toList [47, 47] = b := ⟨_, rfl⟩
  obtain ⟨bC, hbC⟩ : ∃ b, decide (0 ≤ Lib.indexByte s.data.toList 44) = b := ⟨_, rfl⟩
  obtain ⟨ba, hba⟩ : ∃ b, s.data.toList.all VP.okP = b := ⟨_, rfl⟩
  have hl := size_eq_length s
  have F := Lib.hid (VP.pathP_prog s.data.toList)
  rw [hbS, hbC, ← hl] at F
  have HA := Lib.hid hba
  have CS := Lib.hid (show Calls Tryz.prog 138 #[.string s, .string ⟨#[47, 47]⟩] w fun e w' => e = .returned (.bool bS) ∧ w = w' from by
    obtain ⟨⟨m, hm⟩, _⟩ := hE
    exact (Tryz.strings_Contains s ⟨#[47, 47]⟩ m w (by omega) hm).mono fun e w' ⟨he, hw⟩ => ⟨by rw [he, ← hbS], hw.symm⟩)
  have CC := Lib.hid (show Calls Tryz.prog 138 #[.string s, .string ⟨#[44]⟩] w fun e w' => e = .returned (.bool bC) ∧ w = w' from
    (Tryz.strings_Contains_one s 44 w).mono fun e w' ⟨he, hw⟩ => ⟨by rw [he, ← hbC], hw.symm⟩)
  have HL := Lib.hid hl
  clear hbS hbC hba hl hE
  go_enter Tryz.func74, Tryz.ntmps74
  go_wp2_with fail
  go_loop [7] (fun i => ∃ k : Nat, k ≤ s.size ∧ i = .int .i64 k ∧ Hid ((s.data.toList.take k).all VP.okP = true)) (fun i => s.size - (intOf i).toNat)
  case atStart => exact ⟨0, Nat.zero_le _, rfl, rfl⟩
  case round =>
    obtain ⟨k, hk, rfl, hall⟩ := hrel
    by_cases hlt : k < s.size
    · have hts := Lib.hid (take_snoc s k hlt)
      have hbad := Lib.hid (okP_at (s := s) (k := k) hlt)
      have hbt : s[k].toNat < 256 := s[k].toNat_lt
      have ho := Lib.hid (show VP.okP s[k] = (decide (33 ≤ s[k].toNat) && decide (s[k].toNat ≤ 126)) from rfl)
      by_cases h1 : s[k].toNat < 33
      · go_wp2_with fail
        go_ret
        exact ⟨ret_bool (by rw [F.out, hbad.out (by rw [ho.out, decide_eq_false (by omega)]; rfl)] <;> rfl), Below.refl _ _⟩
      by_cases h2 : 126 < s[k].toNat
      · go_wp2_with fail
        go_ret
        exact ⟨ret_bool (by rw [F.out, hbad.out (by rw [ho.out, decide_eq_false (by omega : ¬ s[k].toNat ≤ 126), Bool.and_false])] <;> rfl), Below.refl _ _⟩
      have HP : Hid (VP.okP s[k] = true) := Lib.hid (by rw [ho.out, decide_eq_true (by omega), decide_eq_true (by omega)]; rfl)
      go_wp2_with fail
      go_round
      case rel => exact ⟨k + 1, by omega, by go_num, Lib.hid (by rw [hts.out, List.all_append, hall.out]; simp [HP.out])⟩
      case measure => simp [intOf]; omega
    · have ha : Hid (s.data.toList.all VP.okP = true) := Lib.hid (by
        have hl := HL.out
        have := hall.out
        rwa [List.take_of_length_le (by omega)] at this)
      clear hall HA
      rw [ha.out] at F
      clear ha
      by_cases h0 : s.size = 0
      · have hz := isEmpty_true s h0
        go_wp2_with fail
        go_ret
        exact ⟨ret_bool (by rw [F.out, decide_eq_false (by omega : ¬ 1 ≤ s.size)]; rfl), Below.refl _ _⟩
      have hz := isEmpty_false s (by omega)
      by_cases h60 : s.size ≤ 60
      case neg =>
        go_wp2_with fail
        go_ret
        exact ⟨ret_bool (by rw [F.out, decide_eq_false h60]; simp), Below.refl _ _⟩
      cases bS with
      | true =>
        go_wp2_with fail
        refine CS.out.mono ?_
        rintro E w' ⟨rfl, rfl⟩
        go_wp2_with fail
        go_ret
        exact ⟨ret_bool (by rw [F.out]; simp), Below.refl _ _⟩
      | false =>
      cases bC with
      | true =>
        go_wp2_with fail
        refine CS.out.mono ?_
        rintro E w' ⟨rfl, rfl⟩
        go_wp2_with fail
        refine CC.out.mono ?_
        rintro E w' ⟨rfl, rfl⟩
        go_wp2_with fail
        go_ret
        exact ⟨ret_bool (by rw [F.out]; simp), Below.refl _ _⟩
      | false =>
      obtain ⟨n, hn⟩ : ∃ n, s.size = n + 1 := ⟨s.size - 1, by omega⟩
      have hlast := Lib.hid (last_get s n hn)
      have hst := Lib.hid (startsP_eq s (by omega))
      have hbt : s[0].toNat < 256 := s[0].toNat_lt
      have hnt : (s[n]'(by omega)).toNat < 256 := (s[n]'(by omega)).toNat_lt
      have hf := Lib.hid (show VP.lett s[0] = decide ((97 ≤ s[0].toNat ∧ s[0].toNat ≤ 122) ∨ (65 ≤ s[0].toNat ∧ s[0].toNat ≤ 90)) by unfold VP.lett; simp)
      have hg := Lib.hid (show VP.dig s[0] = decide (48 ≤ s[0].toNat ∧ s[0].toNat ≤ 57) by unfold VP.dig; simp)
      go_wp2_with fail
      refine CS.out.mono ?_
      rintro E w' ⟨rfl, rfl⟩
      go_wp2_with fail
      refine CC.out.mono ?_
      rintro E w' ⟨rfl, rfl⟩
      by_cases h47 : (s[n]'(by omega)).toNat = 47
      · have h47' : (s[n]'(by omega)) = 47 := UInt8.toNat_inj.1 h47
        go_wp2_with fail
        go_ret
        exact ⟨ret_bool (by rw [F.out, hlast.out, h47']; simp), Below.refl _ _⟩
      have h47' : ((some (s[n]'(by omega)) : Option UInt8) == some 47) = false := by
        rw [beq_eq_false_iff_ne]
        intro e
        injection e with e
        exact h47 (by rw [e]; rfl)
      have G := Lib.hid (show VP.pathP s.data.toList = (VP.lett s[0] || VP.dig s[0]) by rw [F.out, hlast.out, h47', hst.out, decide_eq_true (by omega : 1 ≤ s.size), decide_eq_true h60]; simp)
      clear F hlast hst h47'
      have hb47 : (((s[n]'(by omega)).toNat : Int) != 47) = true := by rw [bne_iff_ne]; omega
      go_upto_region 8 with fail
      have hc : s[0].toNat < 48 ∨ (48 ≤ s[0].toNat ∧ s[0].toNat ≤ 57) ∨ (58 ≤ s[0].toNat ∧ s[0].toNat < 65) ∨ (65 ≤ s[0].toNat ∧ s[0].toNat ≤ 90) ∨ (91 ≤ s[0].toNat ∧ s[0].toNat < 97) ∨ (97 ≤ s[0].toNat ∧ s[0].toNat ≤ 122) ∨ 123 ≤ s[0].toNat := by omega
      rcases hc with h | ⟨h1, h2⟩ | ⟨h1, h2⟩ | ⟨h1, h2⟩ | ⟨h1, h2⟩ | ⟨h1, h2⟩ | h
      all_goals
        go_wp2_with fail
        go_ret
        refine ⟨ret_bool ?_, Below.refl _ _⟩
        rw [G.out, hf.out, hg.out, Bool.eq_iff_iff]
        simp <;> omega

theorem pathF_calls (s : ByteArray) (w : World) (hE : Env w) (hs : s.size ≤ 1000000) : Calls Tryz.prog 18 #[.string s] w (BoolIs (VP.pathP s.data.toList) w) := by
  have H := Lib.hid (path_calls s w hE hs)
  clear hE
  go_enter Tryz.func18, Tryz.ntmps18
  go_wp2_with fail
  refine H.out.mono ?_
  rintro E w1 ⟨rfl, hb⟩
  go_wp2_with fail
  go_ret
  exact ⟨rfl, hb⟩
end Go.Proofs.YtodbbfgkclkpgaaGreatDoor

namespace Go.Proofs.YtodbbfgkclkpgaaGreatDoor
open Go.RowKit

theorem u8_beq (c : UInt8) (n : Nat) (h : n < 256) : (c == UInt8.ofNat n) = decide (c.toNat = n) := by
  rw [Bool.eq_iff_iff, beq_iff_eq, decide_eq_true_iff]
  constructor
  · rintro rfl; simp; omega
  · intro e; rw [← e]; simp

end Go.Proofs.YtodbbfgkclkpgaaGreatDoor

namespace Go.Proofs.YtodbbfgkclkpgaaGreatDoor
open Go.RowKit

/-- from any world that has grown out of w, this call returns v, and the world grows -/
def Gives (w : World) (f : Nat) (args : Array Value) (v : Value) : Prop :=
  ∀ W, Below w.heap.size w W → Calls Tryz.prog f args W fun E W' => E = .returned v ∧ Below W.heap.size W W'
theorem Gives.at {w : World} {f : Nat} {args : Array Value} {v : Value} (h : Gives w f args v) (W : World) (hb : Below w.heap.size w W) : Calls Tryz.prog f args W fun E W' => E = .returned v ∧ Below W.heap.size W W' := h W hb

end Go.Proofs.YtodbbfgkclkpgaaGreatDoor

namespace Go.Proofs.YtodbbfgkclkpgaaGreatDoor
open Go.RowKit

theorem indexB_none {c : UInt8} {l : List UInt8} (h : VP.cutAt c l = none) : Lib.indexByte l c = -1 := by
  have hn := (VP.cutAt_none c l).1 h
  have := indexByte_mem l c
  have h2 : l.contains c = false := by simpa using hn
  rw [h2] at this
  have h3 := of_decide_eq_false this
  have h4 := Lib.indexByte_ge l c
  omega

theorem indexB_some {c : UInt8} {l a b : List UInt8} (h : VP.cutAt c l = some (a, b)) : Lib.indexByte l c = a.length := by
  induction l generalizing a b with
  | nil => simp [VP.cutAt] at h
  | cons x l ih =>
    by_cases hx : x = c
    · subst hx
      simp [VP.cutAt] at h
      obtain ⟨rfl, rfl⟩ := h
      simp [Lib.indexByte]
    · simp [VP.cutAt, hx] at h
      obtain ⟨a', h, rfl⟩ := h
      have := ih h
      simp [Lib.indexByte, hx, this]

/-- the result's cells (at b, noughts) and the version's (at b + 1) -/
structure Two (b : Nat) (w : World) (e : Int) (u r : ByteArray) : Prop where
  k0 : w.cell? ⟨b, 0, none⟩ = some (.int .i64 0)
  k1 : w.cell? ⟨b, 1, none⟩ = some (.string ⟨#[]⟩)
  k2 : w.cell? ⟨b, 2, none⟩ = some (.string ⟨#[]⟩)
  f0 : w.frozen? ⟨b, 0, none⟩ = false
  f1 : w.frozen? ⟨b, 1, none⟩ = false
  f2 : w.frozen? ⟨b, 2, none⟩ = false
  c0 : w.cell? ⟨b + 1, 0, none⟩ = some (.int .i64 e)
  c1 : w.cell? ⟨b + 1, 1, none⟩ = some (.string u)
  c2 : w.cell? ⟨b + 1, 2, none⟩ = some (.string r)
  g0 : w.frozen? ⟨b + 1, 0, none⟩ = false
  g1 : w.frozen? ⟨b + 1, 1, none⟩ = false
  g2 : w.frozen? ⟨b + 1, 2, none⟩ = false

theorem Two.step {b : Nat} {w w1 : World} {e : Int} {u r : ByteArray} (h : Two b w e u r) (hb : Below w.heap.size w w1) : Two b w1 e u r :=
  have hz0 : b < w.heap.size := cell_lt h.k0
  have hz1 : b + 1 < w.heap.size := cell_lt h.c0
  ⟨kept hb h.k0, kept hb h.k1, kept hb h.k2, keptf hb hz0 h.f0, keptf hb hz0 h.f1, keptf hb hz0 h.f2,
   kept hb h.c0, kept hb h.c1, kept hb h.c2, keptf hb hz1 h.g0, keptf hb hz1 h.g1, keptf hb hz1 h.g2⟩
end Go.Proofs.YtodbbfgkclkpgaaGreatDoor

namespace Go.Proofs.YtodbbfgkclkpgaaGreatDoor
open Go.RowKit

theorem Two.start (w : World) : Two w.heap.size ((w.alloc (.cells #[.int .i64 0, .string ⟨#[]⟩, .string ⟨#[]⟩] 23)).alloc (.cells #[.int .i64 0, .string ⟨#[]⟩, .string ⟨#[]⟩] 23)) 0 ⟨#[]⟩ ⟨#[]⟩ := by
  constructor
  all_goals first | go_cell | (simp [go_sem])

theorem Two.setE {b : Nat} {w : World} {e : Int} {u r : ByteArray} (h : Two b w e u r) (e' : Int) : Two b (w.setCell ⟨b + 1, 0, none⟩ (.int .i64 e')) e' u r := by
  obtain ⟨k0, k1, k2, f0, f1, f2, c0, c1, c2, g0, g1, g2⟩ := h
  constructor
  all_goals first | go_cell | (simp [go_sem, f0, f1, f2, g0, g1, g2])
theorem Two.setU {b : Nat} {w : World} {e : Int} {u r : ByteArray} (h : Two b w e u r) (u' : ByteArray) : Two b (w.setCell ⟨b + 1, 1, none⟩ (.string u')) e u' r := by
  obtain ⟨k0, k1, k2, f0, f1, f2, c0, c1, c2, g0, g1, g2⟩ := h
  constructor
  all_goals first | go_cell | (simp [go_sem, f0, f1, f2, g0, g1, g2])
theorem Two.setR {b : Nat} {w : World} {e : Int} {u r : ByteArray} (h : Two b w e u r) (r' : ByteArray) : Two b (w.setCell ⟨b + 1, 2, none⟩ (.string r')) e u r' := by
  obtain ⟨k0, k1, k2, f0, f1, f2, c0, c1, c2, g0, g1, g2⟩ := h
  constructor
  all_goals first | go_cell | (simp [go_sem, f0, f1, f2, g0, g1, g2])

end Go.Proofs.YtodbbfgkclkpgaaGreatDoor
