/- The order of versions, and how they are written and read: plain lists of bytes and numbers; no program in sight. · Maps of texts, as sorted lists: look-up, store, strike; how a map in memory reads as one. · What all walks of this seat lean on: the library's variables that are read (Env), and how a world grows. · The walks of package version: what its functions compute. · version.Print: how a version is written. -/
import Derived.Lib.ItoaNum
import Derived.Lib.CutLaws
import Derived.Lib.LastIndexByte
import Derived.Lib.SlTrimSet
import Derived.Maps.OwnSet
import Derived.Maps.StringElems
import Derived.Test.YtofogjfemlhffaaGreatDoorShelf
import Derived.Shelf.Strings.SlTrimAscii
import Derived.Lib.SmallJoins
import Derived.WalkKit
import Derived.WalkSpells
import Derived.WalkLawsBesides
import Derived.Outline
import Derived.Lib.Hide
import Derived.Handy
import Derived.Lib.ItoaLen
import Derived.Sort.Grow
import Derived.Shelf.GgClosure.Gives
namespace Go.Proofs.YtofogjfemlhffaaGreatDoor.VP

/-! comparison functions that are total preorders -/
structure Row {α : Type} (f : α → α → Int) : Prop where
  anti : ∀ a b, f b a = - f a b
  rng : ∀ a b, f a b = -1 ∨ f a b = 0 ∨ f a b = 1
  tr : ∀ a b c, f a b ≤ 0 → f b c ≤ 0 → f a c ≤ 0

/-- equal things are the same against others -/
theorem Row.eq_left {α : Type} {f : α → α → Int} (h : Row f) {a b : α} (c : α) (e : f a b = 0) : f a c = f b c := by
  have h1 := h.anti a b
  have h2 := h.anti a c
  have h3 := h.anti b c
  have r1 := h.rng a c
  have r2 := h.rng b c
  have t1 := h.tr a b c (by omega)
  have t2 := h.tr b a c (by omega)
  have t3 := h.tr c a b
  have t4 := h.tr c b a
  omega

/-- strictly ahead, carried on -/
theorem Row.lt_trans {α : Type} {f : α → α → Int} (h : Row f) {a b c : α} (e1 : f a b = -1) (e2 : f b c = -1) : f a c = -1 := by
  have t1 := h.tr a b c (by omega) (by omega)
  rcases h.rng a c with r | r | r
  · exact r
  · have := h.eq_left b r
    have := h.anti b c
    omega
  · omega

/-- of two comparisons, the first that tells -/
def orc (m n : Int) : Int := if m ≠ 0 then m else n

/-- the order of two numbers -/
def cmpI (a b : Int) : Int := if a < b then -1 else if b < a then 1 else 0

/-- lists of numbers, the end is as many noughts -/
def cmpL : List Int → List Int → Int
  | [], [] => 0
  | x :: l, [] => orc (cmpI x 0) (cmpL l [])
  | [], y :: m => orc (cmpI 0 y) (cmpL [] m)
  | x :: l, y :: m => orc (cmpI x y) (cmpL l m)

/-! the letters of a version -/
def dig (c : UInt8) : Bool := decide (48 ≤ c.toNat) && decide (c.toNat ≤ 57)
def lett (c : UInt8) : Bool := (decide (97 ≤ c.toNat) && decide (c.toNat ≤ 122)) || (decide (65 ≤ c.toNat) && decide (c.toNat ≤ 90))

/-- a byte's place among others -/
def wtc (c : UInt8) : Int := if dig c then 0 else if c.toNat = 126 then -1 else if lett c then (c.toNat : Int) else (c.toNat : Int) + 256

/-- a number without the noughts ahead -/
def bareN (l : List UInt8) : List UInt8 := (l.takeWhile dig).dropWhile (· == 48)

/-- what a part is for the order -/
def keyF : Nat → List UInt8 → List Int
  | 0, _ => []
  | _ + 1, [] => []
  | n + 1, c :: l =>
    if dig c then 0 :: ((bareN (c :: l)).length : Int) :: ((bareN (c :: l)).map fun x => (x.toNat : Int)) ++ keyF n ((c :: l).dropWhile dig)
    else wtc c :: keyF n l

def key (l : List UInt8) : List Int := keyF l.length l

theorem dropWhile_le {α : Type} (p : α → Bool) (l : List α) : (l.dropWhile p).length ≤ l.length := by
  induction l with
  | nil => simp
  | cons a l ih =>
    rw [List.dropWhile_cons]
    split
    · simp; omega
    · simp

/-- the order of parts -/
def partC (a b : List UInt8) : Int := cmpL (key a) (key b)

end Go.Proofs.YtofogjfemlhffaaGreatDoor.VP
namespace Go.Proofs.YtofogjfemlhffaaGreatDoor.VP

/-! a text cut at the first, and at the last, of a byte -/
def cutAt (c : UInt8) : List UInt8 → Option (List UInt8 × List UInt8)
  | [] => none
  | x :: l => if x = c then some ([], l) else (cutAt c l).map fun p => (x :: p.1, p.2)

theorem cutAt_mid (c : UInt8) (a b : List UInt8) (h : c ∉ a) : cutAt c (a ++ c :: b) = some (a, b) := by
  induction a with
  | nil => simp [cutAt]
  | cons x a ih =>
    simp only [List.mem_cons, not_or] at h
    simp [cutAt, ih h.2, Ne.symm h.1]

theorem cutAt_none (c : UInt8) (l : List UInt8) : cutAt c l = none ↔ c ∉ l := by
  induction l with
  | nil => simp [cutAt]
  | cons x l ih =>
    by_cases hx : x = c
    · subst hx; simp [cutAt]
    · simp [cutAt, hx, ih, Ne.symm hx]

theorem cutAt_some {c : UInt8} {l a b : List UInt8} (h : cutAt c l = some (a, b)) : l = a ++ c :: b ∧ c ∉ a := by
  induction l generalizing a b with
  | nil => simp [cutAt] at h
  | cons x l ih =>
    by_cases hx : x = c
    · subst hx
      simp [cutAt] at h
      obtain ⟨rfl, rfl⟩ := h
      simp
    · simp [cutAt, hx] at h
      obtain ⟨a', h, rfl⟩ := h
      obtain ⟨e, hn⟩ := ih h
      subst e
      simp [Ne.symm hx, hn]

/-! numbers -/
def val (l : List UInt8) : Nat := l.foldl (fun n c => n * 10 + (c.toNat - 48)) 0

/-! versions -/
def ok0 (c : UInt8) : Bool := dig c || lett c || c == 46 || c == 43 || c == 126
def ok1 (e : Int) (c : UInt8) : Bool := ok0 c || c == 45 || (decide (0 < e) && c == 58)

def printP (e : Int) (u r : List UInt8) : List UInt8 := (if e ≠ 0 then Go.Lib.itoa e ++ [58] else []) ++ u ++ (if r = [] then [] else 45 :: r)

def startsDig : List UInt8 → Bool
  | [] => false
  | c :: _ => dig c

def rightP (e : Int) (u r : List UInt8) : Bool :=
  decide (0 ≤ e) && decide (e < 1000000000) && startsDig u && u.all (ok1 e) && r.all ok0 && (r != [] || !u.contains 45) && decide ((printP e u r).length ≤ 40)

structure RightP (e : Int) (u r : List UInt8) : Prop where
  lo : 0 ≤ e
  hi : e < 1000000000
  st : startsDig u = true
  au : u.all (ok1 e) = true
  ar : r.all ok0 = true
  dash : r ≠ [] ∨ 45 ∉ u
  len : (printP e u r).length ≤ 40

theorem rightP_iff (e : Int) (u r : List UInt8) : rightP e u r = true ↔ RightP e u r := by
  unfold rightP
  constructor
  · intro h
    simp only [Bool.and_eq_true, decide_eq_true_eq, Bool.or_eq_true, bne_iff_ne, Bool.not_eq_true'] at h
    obtain ⟨⟨⟨⟨⟨⟨h1, h2⟩, h3⟩, h4⟩, h5⟩, h6⟩, h7⟩ := h
    exact ⟨h1, h2, h3, h4, h5, h6.imp id (fun h => by simpa using h), h7⟩
  · intro h
    simp only [Bool.and_eq_true, decide_eq_true_eq, Bool.or_eq_true, bne_iff_ne, Bool.not_eq_true']
    exact ⟨⟨⟨⟨⟨⟨h.lo, h.hi⟩, h.st⟩, h.au⟩, h.ar⟩, h.dash.imp id (fun h => by simpa using h)⟩, h.len⟩

end Go.Proofs.YtofogjfemlhffaaGreatDoor.VP

namespace Go.Proofs.YtofogjfemlhffaaGreatDoor
open Go Go.RowKit

/-- a map of texts: its entries, the keys rising -/
abbrev Fm := List (ByteArray × ByteArray)
def befB (a b : ByteArray) : Bool := bytesBefore a.data.toList b.data.toList
def insF (x : ByteArray × ByteArray) : Fm → Fm
  | [] => [x]
  | y :: r => if befB x.1 y.1 then x :: y :: r else y :: insF x r
def getF (M : Fm) (k : ByteArray) : Option ByteArray := (M.find? fun p => decide (p.1 = k)).map (·.2)
def delF (M : Fm) (k : ByteArray) : Fm := M.filter fun p => !decide (p.1 = k)
def putF (M : Fm) (k v : ByteArray) : Fm := insF (k, v) (delF M k)
def RisF (M : Fm) : Prop := M.Pairwise fun p q => befB p.1 q.1 = true
def keysF (M : Fm) : List ByteArray := M.map (·.1)

/-! the order of keys -/
theorem before_lt : ∀ (x y : List UInt8), bytesBefore x y = decide (x < y)
  | [], [] => by simp [bytesBefore]
  | [], _ :: _ => by simp [bytesBefore]
  | _ :: _, [] => by simp [bytesBefore]
  | a :: x, b :: y => by
    rw [bytesBefore, before_lt x y]
    simp only [List.cons_lt_cons_iff]
    by_cases h1 : a < b <;> by_cases h2 : a = b <;> by_cases h3 : x < y <;> simp [h1, h2, h3]
theorem befB_iff (a b : ByteArray) : befB a b = true ↔ a.data.toList < b.data.toList := by
  unfold befB
  rw [before_lt, decide_eq_true_iff]
theorem befB_irr (a : ByteArray) : befB a a = false := Bool.eq_false_iff.2 fun h => List.lt_irrefl _ ((befB_iff a a).1 h)
theorem befB_trans {a b c : ByteArray} (h1 : befB a b = true) (h2 : befB b c = true) : befB a c = true := (befB_iff a c).2 (List.lt_trans ((befB_iff a b).1 h1) ((befB_iff b c).1 h2))
theorem befB_asym {a b : ByteArray} (h : befB a b = true) : befB b a = false := Bool.eq_false_iff.2 fun h' => by
  have := befB_trans h h'
  rw [befB_irr] at this
  cases this
theorem befB_ne {a b : ByteArray} (h : befB a b = true) : a ≠ b := fun e => by
  rw [e, befB_irr] at h
  cases h
theorem befB_total {a b : ByteArray} (h : a ≠ b) : befB a b = true ∨ befB b a = true := by
  rcases Classical.em (a.data.toList < b.data.toList) with h1 | h1
  · exact .inl ((befB_iff a b).2 h1)
  · rcases Classical.em (b.data.toList < a.data.toList) with h2 | h2
    · exact .inr ((befB_iff b a).2 h2)
    · exact absurd (List.le_antisymm (List.not_lt.1 h2) (List.not_lt.1 h1)) fun e => h (by rw [← Lib.mk_data a, ← Lib.mk_data b, e])

/-! look-up -/
theorem getF_nil (k : ByteArray) : getF [] k = none := rfl
theorem getF_cons (p : ByteArray × ByteArray) (M : Fm) (k : ByteArray) : getF (p :: M) k = if p.1 = k then some p.2 else getF M k := by
  unfold getF
  rw [List.find?_cons]
  by_cases h : p.1 = k
  · rw [if_pos h, decide_eq_true h]; rfl
  · rw [if_neg h, decide_eq_false h]
theorem getF_del (M : Fm) (k k' : ByteArray) : getF (delF M k) k' = if k' = k then none else getF M k' := by
  induction M with
  | nil => simp [delF, getF]
  | cons p M ih =>
    unfold delF at ih ⊢
    rw [List.filter_cons]
    by_cases hp : p.1 = k
    · rw [decide_eq_true hp, if_neg (by decide), ih, getF_cons]
      by_cases hk : k' = k
      · rw [if_pos hk, if_pos hk]
      · rw [if_neg hk, if_neg hk, if_neg fun e => hk (by rw [← e, hp])]
    · rw [decide_eq_false hp, if_pos (by decide), getF_cons, ih, getF_cons]
      by_cases hk : k' = k
      · rw [if_pos hk, if_pos hk, if_neg fun e => hp (by rw [e, hk])]
      · rw [if_neg hk, if_neg hk]
theorem getF_ins (x : ByteArray × ByteArray) (M : Fm) (h : getF M x.1 = none) (k' : ByteArray) : getF (insF x M) k' = if k' = x.1 then some x.2 else getF M k' := by
  induction M with
  | nil =>
    unfold insF
    rw [getF_cons]
    by_cases hk : k' = x.1
    · rw [if_pos hk, if_pos hk.symm]
    · rw [if_neg hk, if_neg (Ne.symm hk)]
  | cons y M ih =>
    rw [getF_cons] at h
    have hy : y.1 ≠ x.1 := fun e => by rw [if_pos e] at h; cases h
    rw [if_neg hy] at h
    unfold insF
    split
    · rw [getF_cons]
      by_cases hk : k' = x.1
      · rw [if_pos hk, if_pos hk.symm]
      · rw [if_neg hk, if_neg (Ne.symm hk)]
    · rw [getF_cons, ih h, getF_cons]
      by_cases hk : k' = x.1
      · rw [if_pos hk, if_pos hk, if_neg fun e => hy (by rw [e, hk])]
      · rw [if_neg hk, if_neg hk]
theorem getF_put (M : Fm) (k v k' : ByteArray) : getF (putF M k v) k' = if k' = k then some v else getF M k' := by
  unfold putF
  rw [getF_ins (k, v) _ (by rw [getF_del, if_pos rfl]), getF_del]
  by_cases hk : k' = k
  · rw [if_pos hk, if_pos hk]
  · rw [if_neg hk, if_neg hk, if_neg hk]

/-! rising -/
theorem ris_nil : RisF [] := List.Pairwise.nil
theorem ris_del {M : Fm} (h : RisF M) (k : ByteArray) : RisF (delF M k) := List.Pairwise.sublist List.filter_sublist h
theorem mem_ins {x p : ByteArray × ByteArray} {M : Fm} : p ∈ insF x M ↔ p = x ∨ p ∈ M := by
  induction M with
  | nil => simp [insF]
  | cons y M ih =>
    unfold insF
    split
    · simp
    · simp only [List.mem_cons, ih]
      constructor
      · rintro (h | h | h)
        · exact .inr (.inl h)
        · exact .inl h
        · exact .inr (.inr h)
      · rintro (h | h | h)
        · exact .inr (.inl h)
        · exact .inl h
        · exact .inr (.inr h)
theorem ris_ins {x : ByteArray × ByteArray} {M : Fm} (h : RisF M) (hx : ∀ p ∈ M, p.1 ≠ x.1) : RisF (insF x M) := by
  induction M with
  | nil => exact List.Pairwise.cons (fun _ h => by cases h) List.Pairwise.nil
  | cons y M ih =>
    obtain ⟨h1, h2⟩ := List.pairwise_cons.1 h
    unfold insF
    split
    · rename_i hb
      refine List.pairwise_cons.2 ⟨fun p hp => ?_, h⟩
      rcases List.mem_cons.1 hp with rfl | hp
      · exact hb
      · exact befB_trans hb (h1 p hp)
    · rename_i hb
      refine List.pairwise_cons.2 ⟨fun p hp => ?_, ih h2 fun p hp => hx p (.tail _ hp)⟩
      rcases mem_ins.1 hp with rfl | hp
      · rcases befB_total (hx y (.head _)) with h | h
        · exact h
        · exact absurd h hb
      · exact h1 p hp
theorem ris_put {M : Fm} (h : RisF M) (k v : ByteArray) : RisF (putF M k v) :=
  ris_ins (ris_del h k) fun p hp => by
    have := (List.mem_filter.1 hp).2
    simpa using this
theorem getF_none {M : Fm} {k : ByteArray} : getF M k = none ↔ ∀ p ∈ M, p.1 ≠ k := by
  induction M with
  | nil => simp [getF]
  | cons y M ih =>
    rw [getF_cons]
    by_cases hy : y.1 = k
    · rw [if_pos hy]
      exact ⟨fun h => (by cases h), fun h => absurd hy (h y (.head _))⟩
    · rw [if_neg hy, ih]
      constructor
      · intro h p hp
        rcases List.mem_cons.1 hp with rfl | hp
        · exact hy
        · exact h p hp
      · exact fun h p hp => h p (.tail _ hp)
theorem getF_mem {M : Fm} (h : RisF M) {k v : ByteArray} : (k, v) ∈ M ↔ getF M k = some v := by
  induction M with
  | nil => simp [getF]
  | cons y M ih =>
    obtain ⟨h1, h2⟩ := List.pairwise_cons.1 h
    rw [getF_cons]
    by_cases hy : y.1 = k
    · rw [if_pos hy]
      constructor
      · intro hm
        rcases List.mem_cons.1 hm with e | hm
        · rw [← e]
        · exact absurd hy (befB_ne (h1 _ hm))
      · intro e
        injection e with e
        subst hy e
        exact .head _
    · rw [if_neg hy, ← ih h2]
      constructor
      · intro hm
        rcases List.mem_cons.1 hm with e | hm
        · exact absurd (by rw [← e]) hy
        · exact hm
      · exact fun hm => .tail _ hm
theorem mem_keys {M : Fm} {k : ByteArray} : k ∈ keysF M ↔ getF M k ≠ none := by
  rw [Ne, getF_none]
  unfold keysF
  rw [List.mem_map]
  constructor
  · rintro ⟨p, hp, rfl⟩ h
    exact h p hp rfl
  · intro h
    refine Classical.byContradiction fun hn => h fun p hp e => hn ⟨p, hp, e⟩
theorem keys_ris {M : Fm} (h : RisF M) : (keysF M).Pairwise fun a b => befB a b = true := List.pairwise_map.2 h

/-- two rising maps that answer alike are the same -/
theorem fm_ext {M N : Fm} (hM : RisF M) (hN : RisF N) (h : ∀ k, getF M k = getF N k) : M = N := by
  induction M generalizing N with
  | nil =>
    cases N with
    | nil => rfl
    | cons y N =>
      have := h y.1
      rw [getF_nil, getF_cons, if_pos rfl] at this
      cases this
  | cons x M ih =>
    cases N with
    | nil =>
      have := h x.1
      rw [getF_nil, getF_cons, if_pos rfl] at this
      cases this
    | cons y N =>
      obtain ⟨hx1, hx2⟩ := List.pairwise_cons.1 hM
      obtain ⟨hy1, hy2⟩ := List.pairwise_cons.1 hN
      have mx : (x.1, x.2) ∈ y :: N := (getF_mem hN).2 (by rw [← h, getF_cons, if_pos rfl])
      have my : (y.1, y.2) ∈ x :: M := (getF_mem hM).2 (by rw [h, getF_cons, if_pos rfl])
      have e : x = y := by
        rcases List.mem_cons.1 mx with e | mx
        · exact e
        · rcases List.mem_cons.1 my with e | my
          · exact e.symm
          · have a := hy1 _ mx
            have b := hx1 _ my
            rw [befB_asym a] at b
            cases b
      subst e
      rw [ih hx2 hy2 fun k => ?_]
      have := h k
      rw [getF_cons, getF_cons] at this
      by_cases hk : x.1 = k
      · subst hk
        have n1 : getF M x.1 = none := getF_none.2 fun p hp e => befB_ne (hx1 p hp) e.symm
        have n2 : getF N x.1 = none := getF_none.2 fun p hp e => befB_ne (hy1 p hp) e.symm
        rw [n1, n2]
      · rwa [if_neg hk, if_neg hk] at this

/-! how a map in memory reads -/
def entF (p : ByteArray × ByteArray) : Lit × DataW Unit := (.string p.1.data.toList, .lit (.string p.2.data.toList))
def datF (M : Fm) : DataW Unit := .map (M.map entF)
theorem same_iff (a b : ByteArray) : (Lit.string a.data.toList).sameKey (.string b.data.toList) = decide (a = b) := by
  show (a.data.toList == b.data.toList) = decide (a = b)
  rw [Bool.eq_iff_iff, beq_iff_eq, decide_eq_true_iff]
  exact ⟨fun h => by rw [← Lib.mk_data a, ← Lib.mk_data b, h], fun h => by rw [h]⟩
theorem datF_del (M : Fm) (k : ByteArray) : (datF M).del (.string k.data.toList) = datF (delF M k) := by
  show DataW.map ((M.map entF).filter fun p => !p.1.sameKey (.string k.data.toList)) = DataW.map ((M.filter fun p => !decide (p.1 = k)).map entF)
  rw [List.filter_map]
  congr 2
  refine List.filter_congr fun p _ => ?_
  show (!(entF p).1.sameKey (.string k.data.toList)) = _
  rw [show (entF p).1 = .string p.1.data.toList from rfl, same_iff]
theorem insert_map (x : ByteArray × ByteArray) (M : Fm) : DataW.insert (entF x) (M.map entF) = (insF x M).map entF := by
  induction M with
  | nil => rfl
  | cons y M ih =>
    rw [List.map_cons]
    unfold DataW.insert insF
    rw [show (entF x).1.before (entF y).1 = befB x.1 y.1 from rfl]
    split
    · rfl
    · rw [ih]; rfl
theorem datF_put (M : Fm) (k v : ByteArray) : (datF M).put (.string k.data.toList) (.lit (.string v.data.toList)) = datF (putF M k v) := by
  have h := datF_del M k
  unfold DataW.del datF at h
  show DataW.map (DataW.insert (entF (k, v)) ((M.map entF).filter fun p => !p.1.sameKey (.string k.data.toList))) = _
  injection h with h
  rw [h, insert_map]
  rfl
theorem datF_at (M : Fm) (k : ByteArray) (z : DataW Unit) : (datF M).atKey (.string k.data.toList) z = match getF M k with | some v => .lit (.string v.data.toList) | none => z := by
  induction M with
  | nil => rfl
  | cons y M ih =>
    rw [getF_cons]
    unfold datF DataW.atKey at ih ⊢
    rw [List.map_cons]
    simp only [List.find?_cons] at ih ⊢
    rw [show (entF y).1 = .string y.1.data.toList from rfl, same_iff]
    by_cases h : y.1 = k
    · rw [if_pos h, decide_eq_true h]; rfl
    · rw [if_neg h, decide_eq_false h]
      exact ih
theorem datF_has (M : Fm) (k : ByteArray) : Maps.has (datF M) (.string k.data.toList) = (getF M k).isSome := by
  show (M.map entF).any (fun p => p.1.sameKey (.string k.data.toList)) = _
  induction M with
  | nil => rfl
  | cons y M ih =>
    rw [getF_cons, List.map_cons, List.any_cons, show (entF y).1 = .string y.1.data.toList from rfl, same_iff, ih]
    by_cases h : y.1 = k
    · rw [if_pos h, decide_eq_true h]; rfl
    · rw [if_neg h, decide_eq_false h, Bool.false_or]
theorem datF_size (M : Fm) : Maps.size (datF M) = M.length := by
  show (M.map entF).length = _
  rw [List.length_map]

/-! how many -/
theorem len_ins (x : ByteArray × ByteArray) (M : Fm) : (insF x M).length = M.length + 1 := by
  induction M with
  | nil => rfl
  | cons y M ih =>
    unfold insF
    split
    · rfl
    · rw [List.length_cons, ih, List.length_cons]
theorem del_none {M : Fm} {k : ByteArray} (h : getF M k = none) : delF M k = M := by
  unfold delF
  refine List.filter_eq_self.2 fun p hp => ?_
  simpa using getF_none.1 h p hp
theorem len_del_le (M : Fm) (k : ByteArray) : (delF M k).length ≤ M.length := List.length_filter_le _ _
theorem len_del_ge {M : Fm} (h : RisF M) (k : ByteArray) : M.length ≤ (delF M k).length + 1 := by
  induction M with
  | nil => exact Nat.zero_le _
  | cons p M ih =>
    obtain ⟨h1, h2⟩ := List.pairwise_cons.1 h
    unfold delF
    rw [List.filter_cons]
    by_cases hp : p.1 = k
    · rw [decide_eq_true hp, if_neg (by decide)]
      have := del_none (M := M) (k := k) (getF_none.2 fun q hq e => befB_ne (h1 q hq) (by rw [hp, e]))
      unfold delF at this
      rw [this]
      exact Nat.le_refl _
    · rw [decide_eq_false hp, if_pos (by decide), List.length_cons, List.length_cons]
      exact Nat.succ_le_succ (ih h2)
theorem len_del_lt {M : Fm} {k : ByteArray} (h : getF M k ≠ none) : (delF M k).length < M.length := by
  induction M with
  | nil => exact absurd rfl h
  | cons p M ih =>
    unfold delF
    rw [List.filter_cons]
    by_cases hp : p.1 = k
    · rw [decide_eq_true hp, if_neg (by decide), List.length_cons]
      exact Nat.lt_succ_of_le (List.length_filter_le _ _)
    · rw [decide_eq_false hp, if_pos (by decide), List.length_cons, List.length_cons]
      rw [getF_cons, if_neg hp] at h
      exact Nat.succ_lt_succ (ih h)
theorem len_put_le (M : Fm) (k v : ByteArray) : (putF M k v).length ≤ M.length + 1 := by
  unfold putF
  rw [len_ins]
  exact Nat.succ_le_succ (len_del_le M k)
theorem len_put_old {M : Fm} {k : ByteArray} (h : getF M k ≠ none) (v : ByteArray) : (putF M k v).length ≤ M.length := by
  unfold putF
  rw [len_ins]
  exact len_del_lt h
theorem len_sub {M N : Fm} (hM : RisF M) (h : ∀ k, getF M k ≠ none → getF N k ≠ none) : M.length ≤ N.length := by
  induction N generalizing M with
  | nil =>
    cases M with
    | nil => exact Nat.le_refl _
    | cons p M => exact absurd rfl (h p.1 (by rw [getF_cons, if_pos rfl]; simp))
  | cons y N ih =>
    have h1 := len_del_ge hM y.1
    have h2 := ih (ris_del hM y.1) fun k hk => by
      rw [getF_del] at hk
      by_cases e : k = y.1
      · rw [if_pos e] at hk; exact absurd rfl hk
      · rw [if_neg e] at hk
        have := h k hk
        rwa [getF_cons, if_neg (Ne.symm e)] at this
    rw [List.length_cons]
    omega
end Go.Proofs.YtofogjfemlhffaaGreatDoor

namespace Go.Proofs.YtofogjfemlhffaaGreatDoor
open Go.RowKit

/-- What the library's functions read of the library's own variables: a number, and the table of powers of ten. -/
def Env (w : World) : Prop := (∃ m, w.cell? ⟨2, 0, none⟩ = some (.int .i64 m)) ∧ Lib.TabIs Tryz.prog w "internal/strconv.uint64pow10" .u64 Lib.pow10Tab

theorem cell_lt {w : World} {a : Addr} {v : Value} (h : w.cell? a = some v) : a.block < w.heap.size := by
  rcases Nat.lt_or_ge a.block w.heap.size with h1 | h1
  · exact h1
  · unfold World.cell? at h
    rw [Array.getElem?_eq_none h1] at h
    cases h

theorem kept {w w1 : World} {p : Addr} {v : Value} (hb : Below w.heap.size w w1) (h : w.cell? p = some v) : w1.cell? p = some v := (hb.cell (cell_lt h)).trans h
theorem below_alloc (w : World) (o : Obj) : Below w.heap.size w (w.alloc o) := (Below.refl _ _).alloc (Nat.le_refl _) o
theorem below_drew (w : World) : Below w.heap.size w w.drew := (Below.refl _ _).drew

theorem box3 {w w1 : World} {x y z : Value} {t : TypeId} (hb : Below (w.alloc (.cells #[x, y, z] t)).heap.size (w.alloc (.cells #[x, y, z] t)) w1) :
    w1.cell? ⟨w.heap.size, 0, none⟩ = some x ∧ w1.cell? ⟨w.heap.size, 1, none⟩ = some y ∧ w1.cell? ⟨w.heap.size, 2, none⟩ = some z :=
  ⟨kept hb (by go_cell), kept hb (by go_cell), kept hb (by go_cell)⟩

theorem Env.below {w w' : World} (h : Env w) (hb : Below w.heap.size w w') : Env w' := by
  obtain ⟨⟨m, hm⟩, ht⟩ := h
  exact ⟨⟨m, (hb.cell (cell_lt hm)).trans hm⟩, Joins.tab_stays (g := 5) (by kernel_rfl) ht hb (Nat.le_refl _)⟩

theorem Env.drew {w : World} (h : Env w) : Env w.drew := h.below ((Below.refl _ _).drew)

/-- one step more -/
theorem step_below {w w1 w2 : World} (h1 : Below w.heap.size w w1) (h2 : Below w1.heap.size w1 w2) : Below w.heap.size w w2 := h1.trans (h2.mono h1.size)

theorem below_drewN (B : Nat) (w : World) (n : Nat) : Below B w (w.drewN n) := ⟨rfl, rfl, rfl, Nat.le_refl _, fun _ _ => rfl⟩

theorem ret_bool {a b : Bool} (h : a = b) : Ending.returned (.bool a) = .returned (.bool b) := by rw [h]

theorem isEmpty_false (s : ByteArray) (h : 0 < s.size) : s.toList.isEmpty = false := by
  rw [Lib.toList_data]
  cases h1 : s.data.toList with
  | nil => have := Lib.size_eq s; rw [h1, List.length_nil] at this; omega
  | cons _ _ => rfl
theorem isEmpty_true (s : ByteArray) (h : s.size = 0) : s.toList.isEmpty = true := by
  rw [Lib.toList_data]
  cases h1 : s.data.toList with
  | nil => rfl
  | cons _ _ => have := Lib.size_eq s; rw [h1, List.length_cons] at this; omega
theorem eq_empty (s : ByteArray) (h : s.size = 0) : s = ⟨#[]⟩ := by
  obtain ⟨⟨l⟩⟩ := s
  have : l = [] := List.eq_nil_of_length_eq_zero h
  subst this; rfl
theorem take_snoc (s : ByteArray) (k : Nat) (h : k < s.size) : s.data.toList.take (k + 1) = s.data.toList.take k ++ [s[k]] := by
  rw [List.take_succ_eq_append_getElem (by simpa using h)]; rfl
theorem drop_cons (s : ByteArray) (k : Nat) (h : k < s.size) : s.data.toList.drop k = s[k] :: s.data.toList.drop (k + 1) := by
  rw [List.drop_eq_getElem_cons (by simpa using h)]; rfl
theorem list_cons (s : ByteArray) (h : 0 < s.size) : s.data.toList = s[0] :: s.data.toList.tail := by
  have := drop_cons s 0 h
  rw [List.drop_zero] at this
  rw [← List.drop_one]
  exact this
theorem size_eq_length (s : ByteArray) : s.size = s.data.toList.length := Lib.size_eq s

theorem mk_data (s : ByteArray) : (⟨s.data.toList.toArray⟩ : ByteArray) = s := by cases s; simp
theorem data_inj {s t : ByteArray} (h : s.data.toList = t.data.toList) : s = t := by rw [← mk_data s, ← mk_data t, h]

/-! the library's calls, said in our words -/
theorem info_set : (Tryz.prog.info? 186).map (fun i => (i.zero, i.size)) = some (some (.agg (Array.replicate 256 (.bool false))), 256) := by kernel_rfl

/-- t is s without what stands ahead of it that is of one kind -/
def Behind (p : UInt8 → Bool) (s t : ByteArray) : Prop := t.data.toList = s.data.toList.dropWhile p

theorem Behind.size {p : UInt8 → Bool} {s t : ByteArray} (h : Behind p s t) : t.size ≤ s.size := by
  have := VP.dropWhile_le p s.data.toList
  rw [size_eq_length, size_eq_length, h]; exact this

def digitsB : ByteArray := ⟨#[48, 49, 50, 51, 52, 53, 54, 55, 56, 57]⟩
end Go.Proofs.YtofogjfemlhffaaGreatDoor

namespace Go.Proofs.YtofogjfemlhffaaGreatDoor
open Go.RowKit

/-- where a byte stands among the digits -/
def idxD (c : UInt8) : Int := Lib.indexByte digitsB.data.toList c
theorem idxD_fin : ∀ i : Fin 256, decide (0 ≤ idxD (UInt8.ofNat i.val)) = VP.dig (UInt8.ofNat i.val) := by decide +kernel
theorem idxD_dig (c : UInt8) : decide (0 ≤ idxD c) = VP.dig c := by
  have := idxD_fin ⟨c.toNat, c.toNat_lt⟩
  simpa using this
theorem call_idxD (c : UInt8) (w : World) : Calls Tryz.prog 112 #[.string ⟨#[48, 49, 50, 51, 52, 53, 54, 55, 56, 57]⟩, .int .u8 (c.toNat : Int)] w fun e w' => e = .returned (.int .i64 (idxD c)) ∧ w = w' :=
  (Tryz.strings_IndexByte digitsB (c.toNat : Int) w).mono fun e w' ⟨he, hw⟩ => ⟨by rw [he]; unfold idxD; simp, hw.symm⟩

end Go.Proofs.YtofogjfemlhffaaGreatDoor

namespace Go.Proofs.YtofogjfemlhffaaGreatDoor
open Go.RowKit

def PrintIs (e : Int) (u r : ByteArray) (w : World) (E : Ending) (w' : World) : Prop := ∃ t : ByteArray, E = .returned (.string t) ∧ t.data.toList = VP.printP e u.data.toList r.data.toList ∧ Below w.heap.size w w'

theorem grow_below (w : World) (k : Nat) (os : Array Obj) : Below w.heap.size w (Go.Sort.grow (w.drewN k) os) := by
  refine ⟨rfl, rfl, rfl, by simp [Go.Sort.grow], fun i hi => ?_⟩
  show (w.heap ++ os)[i]? = _
  rw [Array.getElem?_append_left hi]

def ItoaIs (n : Int) (w : World) (E : Ending) (w' : World) : Prop := ∃ t : ByteArray, E = .returned (.string t) ∧ t.data.toList = Lib.itoa n ∧ t.size ≤ 21 ∧ Below w.heap.size w w'

theorem call_itoa (n : Int) (w : World) (hE : Env w) (h0 : -9223372036854775808 ≤ n) (h1 : n ≤ 9223372036854775807) : Calls Tryz.prog 152 #[.int .i64 n] w (ItoaIs n w) :=
  (Tryz.strconv_Itoa n h0 h1 w hE.2).mono fun e w' ⟨he, k, os, hw⟩ => by
    refine ⟨_, he, rfl, ?_, ?_⟩
    · rw [size_eq_length]; exact Lib.itoa_length_le n h0 h1
    · rw [hw]; exact grow_below w k os

theorem append_data (a b : ByteArray) : (a ++ b).data.toList = a.data.toList ++ b.data.toList := Joins.data_append a b

theorem printP_rev (r : ByteArray) (h : 0 < r.size) : ¬ r.data.toList = [] := fun e => by
  have := size_eq_length r
  rw [e, List.length_nil] at this
  omega

set_option maxRecDepth 100000 in
theorem print_calls (e : Int) (u r : ByteArray) (w : World) (hE : Env w) (h0 : -9223372036854775808 ≤ e) (h1 : e ≤ 9223372036854775807) (hu : u.size ≤ 1000000) (hr : r.size ≤ 1000000) :
    Calls Tryz.prog 115 #[.agg #[.int .i64 e, .string u, .string r]] w (PrintIs e u r w) := by
  have hb0 := below_alloc w (.cells #[.int .i64 e, .string u, .string r] 37)
  have hE1 := hE.below hb0
  clear hE
  have hr' : r.size = 0 ∨ 0 < r.size := by omega
  by_cases he : e = 0
  · subst he
    rcases hr' with hr' | hr'
    · have hz := isEmpty_true r hr'
      have er := eq_empty r hr'
      subst er
      clear hr' hr
      go_enter Tryz.func115, Tryz.ntmps115
      go_wp2
      go_ret
      exact ⟨_, rfl, by simp [VP.printP], hb0⟩
    · have hz := isEmpty_false r hr'
      have Hr := Lib.hid (printP_rev r hr')
      go_enter Tryz.func115, Tryz.ntmps115
      go_wp2
      go_ret
      exact ⟨_, rfl, by rw [append_data, append_data]; simp [VP.printP, Hr.out], hb0⟩
  · have hb : (e != 0) = true := by rw [bne_iff_ne]; exact he
    have HE := Lib.hid he
    clear he
    rcases hr' with hr' | hr'
    · have hz := isEmpty_true r hr'
      have er := eq_empty r hr'
      subst er
      clear hr' hr
      go_enter Tryz.func115, Tryz.ntmps115
      go_wp2_with fail
      refine (call_itoa _ _ hE1 h0 h1).mono ?_
      rintro E w1 ⟨t, rfl, ht, hts, hb1⟩
      have hB := step_below hb0 hb1
      obtain ⟨c0, c1, c2⟩ := box3 hb1
      clear hb1
      have Ht := Lib.hid ht
      clear ht
      go_wp2
      go_ret
      exact ⟨_, rfl, by rw [append_data, append_data, Ht.out]; simp [VP.printP, HE.out], hB⟩
    · have hz := isEmpty_false r hr'
      have Hr := Lib.hid (printP_rev r hr')
      go_enter Tryz.func115, Tryz.ntmps115
      go_wp2_with fail
      refine (call_itoa _ _ hE1 h0 h1).mono ?_
      rintro E w1 ⟨t, rfl, ht, hts, hb1⟩
      have hB := step_below hb0 hb1
      obtain ⟨c0, c1, c2⟩ := box3 hb1
      clear hb1
      have Ht := Lib.hid ht
      clear ht
      go_wp2
      go_ret
      exact ⟨_, rfl, by rw [append_data, append_data, append_data, append_data, Ht.out]; simp [VP.printP, HE.out, Hr.out], hB⟩
end Go.Proofs.YtofogjfemlhffaaGreatDoor
