/- Fields, as lines; what a package says of itself: plain Lean over lists of bytes. · Slices in memory whose elements have so many cells each: texts, fields, files. · A range over an iterator that keeps its place in a cell of its own (strings.SplitSeq): the law for the loop, outside and within another such loop; every way out of the body is its end or a return. · strings.SplitSeq at a separator of one byte: its contract as an iterator. · strings.Split at one byte. · Paths: what the program asks of one, and what the reference asks, are the same: plain Lean. · record.path, record.Path; the reference's Path: which paths may be. -/
import Derived.Test.YtofogjfemlhffaaGreatDoorSPK3
import Derived.Test.YtofogjfemlhffaaGreatDoorSPK1
import Derived.RangeFuncNested
import Derived.RangeFuncBound
import Derived.RangeFuncCalls
import Derived.RangeFuncLeaves
import Derived.Shelf.Abstract
import Derived.WalkKit
import Derived.OwnWalkIn
import Derived.TacticsInMore
import Derived.LoopNIn
import Derived.LoopIn
import Derived.Shelf.Strings.SplitShaped
import Derived.Lib.IndexMore
import Derived.Test.YtofogjfemlhffaaGreatDoorSPK2
import Derived.Deep.Cut
namespace Go.Proofs.YtofogjfemlhffaaGreatDoor.VP

def allAt (n : Nat) (p : Nat → Bool) : Bool := (List.range n).all p
theorem allAt_true {n : Nat} {p : Nat → Bool} (h : ∀ i, i < n → p i = true) : allAt n p = true := by
  unfold allAt
  rw [List.all_eq_true]
  exact fun i hi => h i (List.mem_range.1 hi)
theorem allAt_false {n : Nat} {p : Nat → Bool} {i : Nat} (hi : i < n) (h : p i = false) : allAt n p = false := by
  unfold allAt
  rw [List.all_eq_false]
  exact ⟨i, List.mem_range.2 hi, by rw [h]; simp⟩
theorem allAt_iff {n : Nat} {p : Nat → Bool} : allAt n p = true ↔ ∀ i, i < n → p i = true := by
  unfold allAt
  rw [List.all_eq_true]
  exact ⟨fun h i hi => h i (List.mem_range.2 hi), fun h i hi => h i (List.mem_range.1 hi)⟩

/-- a field: its name, and what it says -/
structure Fd where
  n : List UInt8
  v : List UInt8
deriving DecidableEq

def okN (c : UInt8) : Bool := decide (33 ≤ c.toNat) && decide (c.toNat ≤ 126) && !(c == 58)
def fnameP (l : List UInt8) : Bool := l.all okN && decide (1 ≤ l.length) && decide (l.length ≤ 24) && !(l.head? == some 35) && !(l.head? == some 45)

/-- a text without bytes of a kind at both ends -/
def cutBoth (p : UInt8 → Bool) (l : List UInt8) : List UInt8 := ((l.reverse.dropWhile p).reverse).dropWhile p
def okL (c : UInt8) : Bool := (decide (32 ≤ c.toNat) || c == 9) && !(c == 127)
def bl (c : UInt8) : Bool := c == 32 || c == 9
def flineP (l : List UInt8) : Bool := l.all okL && decide (cutBoth bl l = l)
/-- what a field says may be said -/
def valueP (v : List UInt8) : Bool :=
  match pieces 10 v with
  | [] => true
  | a :: r => flineP a && r.all (fun s => flineP s && !s.isEmpty)

def lowC (c : UInt8) : UInt8 := if 65 ≤ c.toNat ∧ c.toNat ≤ 90 then c + 32 else c
def smallP (l : List UInt8) : List UInt8 := l.map lowC

def restL (s : List UInt8) : List UInt8 := 32 :: ((if s.head? = some 46 then 46 :: s else s) ++ [10])
def firstL2 (a : List UInt8) : List UInt8 := if a = [] then [10] else 32 :: (a ++ [10])
def linesL : List (List UInt8) → List UInt8
  | [] => []
  | a :: r => firstL2 a ++ r.flatMap restL
def fieldL (f : Fd) : List UInt8 := f.n ++ 58 :: linesL (pieces 10 f.v)
def textL (l : List Fd) : List UInt8 := l.flatMap fieldL

def fieldOk (l : List Fd) (i : Nat) : Bool :=
  match l[i]? with
  | none => true
  | some f => fnameP f.n && !((l.take i).any fun g => decide (smallP g.n = smallP f.n)) && valueP f.v
/-- may fields be a stanza -/
def stanzaP (l : List Fd) : Bool := decide (1 ≤ l.length) && decide (l.length ≤ 40) && allAt l.length (fieldOk l) && decide ((textL l).length ≤ 4000)

/-! paths -/
def okP (c : UInt8) : Bool := decide (33 ≤ c.toNat) && decide (c.toNat ≤ 126)
-- (letters: lett)
def startsP : List UInt8 → Bool
  | [] => false
  | c :: _ => lett c || dig c
/-- a / ahead of a /, or at the end -/
def slashes : List UInt8 → Bool
  | [] => false
  | [c] => c == 47
  | c :: d :: l => (c == 47 && d == 47) || slashes (d :: l)
def pathP (l : List UInt8) : Bool := l.all (fun c => okP c && !(c == 44)) && !slashes l && decide (1 ≤ l.length) && decide (l.length ≤ 60) && startsP l
def pathOk (l : List (List UInt8)) (i : Nat) : Bool :=
  match l[i]? with
  | none => true
  | some s => pathP s && !((l.take i).any fun t => decide (t = s))
def pathsP (l : List (List UInt8)) : Bool := allAt l.length (pathOk l) && decide (l.length ≤ 20)

/-! what a package says of itself -/
structure Pk where
  n : List UInt8
  e : Int
  u : List UInt8
  r : List UInt8
  dep : List (List Tm)
  ahead : List (List Tm)
  ag : List Tm
  br : List Tm
  re : List Tm
  pr : List Tm
  se : List (List UInt8)
  li : List (List UInt8)

def flatP (l : List Tm) : Bool := askedP (l.map fun t => [t])
def provP (t : Tm) : Bool := decide (t.op = 0) || decide (t.op = 3)
def saysP (p : Pk) : Bool :=
  p.pr.all provP && nameP p.n && rightP p.e p.u p.r && askedP p.dep && askedP p.ahead && flatP p.ag && flatP p.br && flatP p.re && flatP p.pr && pathsP p.se && pathsP p.li

end Go.Proofs.YtofogjfemlhffaaGreatDoor.VP

namespace Go.Proofs.YtofogjfemlhffaaGreatDoor
open Go Go.RowKit

section
variable {α : Type} {cs : α → List Value} {size : Nat}
/-- this value is a slice; the cells of its elements are these -/
def SlC (cs : α → List Value) (w : World) (v : Value) (xs : List α) : Prop :=
  ∃ A c, v = .slice A xs.length c ∧ xs.length ≤ c ∧ xs.length ≤ 9223372036854775807 ∧ (xs ≠ [] → ∃ b off, A = some ⟨b, off, none⟩ ∧ ∀ (j : Nat) (u : Value), (xs.flatMap cs)[j]? = some u → w.cell? ⟨b, off + j, none⟩ = some u)

theorem SlC.below {w w' : World} {v : Value} {xs : List α} (h : SlC cs w v xs) (hb : Below w.heap.size w w') : SlC cs w' v xs := by
  obtain ⟨A, c, hv, hc, hm, h⟩ := h
  refine ⟨A, c, hv, hc, hm, fun hn => ?_⟩
  obtain ⟨b, off, hA, hi⟩ := h hn
  exact ⟨b, off, hA, fun j u hj => kept hb (hi j u hj)⟩

theorem SlC.nil (w : World) (A : Option Addr) (c : Nat) : SlC cs w (.slice A 0 c) [] := ⟨A, c, rfl, Nat.zero_le _, by simp, fun h => absurd rfl h⟩

theorem flat_at (hs : ∀ x, (cs x).length = size) {xs : List α} {i : Nat} {x : α} (h : xs[i]? = some x) (r : Nat) (hr : r < size) : (xs.flatMap cs)[i * size + r]? = (cs x)[r]? := by
  induction xs generalizing i with
  | nil => cases h
  | cons a xs ih =>
    rw [List.flatMap_cons]
    cases i with
    | zero =>
      obtain rfl := Option.some.inj h
      rw [List.getElem?_append_left (by rw [hs]; omega)]
      congr 1
      omega
    | succ i =>
      rw [List.getElem?_append_right (by rw [hs, Nat.succ_mul]; omega), hs, show (i + 1) * size + r - size = i * size + r by rw [Nat.succ_mul]; omega]
      exact ih h
theorem flat_length (hs : ∀ x, (cs x).length = size) (xs : List α) : (xs.flatMap cs).length = xs.length * size := by
  induction xs with
  | nil => simp
  | cons a xs ih => rw [List.flatMap_cons, List.length_append, ih, hs, List.length_cons, Nat.succ_mul]; omega

theorem SlC.src {w : World} {v : Value} {xs : List α} (h : SlC cs w v xs) : SrcIs w v xs.length (xs.flatMap cs) := by
  obtain ⟨A, c, hv, _, _, h⟩ := h
  exact ⟨A, c, hv, fun hn => h (fun e => hn (by rw [e]; rfl))⟩

theorem slc_of_own {w : World} {base : Nat} {e : TypeId} {v : Value} {n : Nat} {xs : List α} (h : w.ownsRow base e size v n (xs.flatMap cs)) (hn : n = xs.length) (hb : n ≤ 9223372036854775807) : SlC cs w v xs := by
  subst hn
  rcases h.2 with ⟨rfl, h0⟩ | ⟨g, cap, cur, rfl, hg, hk, hc, hm, hs, ht⟩
  · refine ⟨none, 0, by rw [h0], by omega, hb, fun hne => ?_⟩
    exact absurd (List.eq_nil_of_length_eq_zero h0) hne
  · refine ⟨some ⟨g, 0, none⟩, cap, rfl, hc, hb, fun _ => ⟨g, 0, rfl, fun j u hj => ?_⟩⟩
    have := h.cells (g := g) rfl j u hj
    rwa [Go.WideShapes.add_plain] at this

theorem SlC.take {w : World} {A : Option Addr} {n c : Nat} {xs : List α} (h : SlC cs w (.slice A n c) xs) {k : Nat} (hk : k ≤ xs.length) : SlC cs w (.slice A k c) (xs.take k) := by
  obtain ⟨A', c', hv, hc, hm, h⟩ := h
  injection hv with h1 h2 h3
  subst h1
  subst h3
  refine ⟨A, c, by rw [List.length_take, Nat.min_eq_left hk], by rw [List.length_take]; omega, by rw [List.length_take]; omega, fun hn => ?_⟩
  obtain ⟨b, off, hA, hi⟩ := h (fun e => hn (by rw [e]; simp))
  refine ⟨b, off, hA, fun j u hj => hi j u ?_⟩
  have e : xs.flatMap cs = (xs.take k).flatMap cs ++ (xs.drop k).flatMap cs := by rw [← List.flatMap_append, List.take_append_drop]
  rw [e, List.getElem?_append_left (List.getElem?_eq_some_iff.1 hj).1]
  exact hj
end

/-! texts -/
def strC (s : ByteArray) : List Value := [.string s]
def StrsAt (w : World) (v : Value) (ss : List ByteArray) : Prop := SlC strC w v ss
theorem StrsAt.below {w w' : World} {v : Value} {ss : List ByteArray} (h : StrsAt w v ss) (hb : Below w.heap.size w w') : StrsAt w' v ss := SlC.below h hb
theorem flat_strs (ss : List ByteArray) : ss.flatMap strC = ss.map Value.string := by
  induction ss with
  | nil => rfl
  | cons a ss ih => rw [List.flatMap_cons, ih]; rfl
theorem StrsAt.open {w : World} {v : Value} {ss : List ByteArray} (h : StrsAt w v ss) :
    ∃ A c, v = .slice A ss.length c ∧ ss.length ≤ c ∧ ss.length ≤ 9223372036854775807 ∧ (ss ≠ [] → ∃ b off, A = some ⟨b, off, none⟩ ∧ ∀ (i : Nat) (s : ByteArray), ss[i]? = some s → w.cell? ⟨b, off + i, none⟩ = some (.string s)) := by
  obtain ⟨A, c, hv, hc, hm, h⟩ := h
  refine ⟨A, c, hv, hc, hm, fun hn => ?_⟩
  obtain ⟨b, off, hA, hi⟩ := h hn
  refine ⟨b, off, hA, fun i s hs => hi i _ ?_⟩
  rw [flat_strs, List.getElem?_map, hs]; rfl

/-! fields, files: two texts each -/
structure Fv where
  n : ByteArray
  v : ByteArray
def Fv.fd (f : Fv) : VP.Fd := ⟨f.n.data.toList, f.v.data.toList⟩
def fldC (f : Fv) : List Value := [.string f.n, .string f.v]
def FieldsAt (w : World) (v : Value) (fs : List Fv) : Prop := SlC fldC w v fs
theorem FieldsAt.below {w w' : World} {v : Value} {fs : List Fv} (h : FieldsAt w v fs) (hb : Below w.heap.size w w') : FieldsAt w' v fs := SlC.below h hb
theorem FieldsAt.open {w : World} {v : Value} {fs : List Fv} (h : FieldsAt w v fs) :
    ∃ A c, v = .slice A fs.length c ∧ fs.length ≤ c ∧ fs.length ≤ 9223372036854775807 ∧ (fs ≠ [] → ∃ b off, A = some ⟨b, off, none⟩ ∧ ∀ (i : Nat) (f : Fv), fs[i]? = some f → w.cell? ⟨b, off + i * 2, none⟩ = some (.string f.n) ∧ w.cell? ⟨b, off + i * 2 + 1, none⟩ = some (.string f.v)) := by
  obtain ⟨A, c, hv, hc, hm, h⟩ := h
  refine ⟨A, c, hv, hc, hm, fun hn => ?_⟩
  obtain ⟨b, off, hA, hi⟩ := h hn
  have hs : ∀ f : Fv, (fldC f).length = 2 := fun _ => rfl
  refine ⟨b, off, hA, fun i f hf => ⟨?_, ?_⟩⟩
  · exact hi (i * 2) _ (flat_at hs hf 0 (by omega))
  · rw [Nat.add_assoc]
    exact hi (i * 2 + 1) _ (flat_at hs hf 1 (by omega))
theorem FieldsAt.take {w : World} {A : Option Addr} {n c : Nat} {fs : List Fv} (h : FieldsAt w (.slice A n c) fs) {k : Nat} (hk : k ≤ fs.length) : FieldsAt w (.slice A k c) (fs.take k) := SlC.take h hk
theorem StrsAt.take {w : World} {A : Option Addr} {n c : Nat} {ss : List ByteArray} (h : StrsAt w (.slice A n c) ss) {k : Nat} (hk : k ≤ ss.length) : StrsAt w (.slice A k c) (ss.take k) := SlC.take h hk
end Go.Proofs.YtofogjfemlhffaaGreatDoor

namespace Go.Proofs.YtofogjfemlhffaaGreatDoor
open Go Go.RowKit

section
variable {F : Fence} {n : Nat} {P : Program} {w : World}

/-- what the caller says abides the turn of the iterator's own cell, and of what is no cells from B on -/
def OwnBox {β : Type} (B Bs : Nat) (I : β → World → Prop) : Prop :=
  ∀ s W W' row, I s W → W.grownBy W' row → (∀ r, row = some r → r = Bs ∨ (B ≤ r ∧ ∃ o : Obj, W.heap[r]? = some o ∧ o.isCells = false)) → I s W'
theorem OwnBox.alloc {β : Type} {B Bs : Nat} {I : β → World → Prop} (h : OwnBox B Bs I) {s : β} {W : World} (o : Obj) (hs : I s W) : I s (W.alloc o) :=
  h s W _ none hs (World.grownBy_alloc W o none) (fun r e => by cases e)
end
end Go.Proofs.YtofogjfemlhffaaGreatDoor

namespace Go.Proofs.YtofogjfemlhffaaGreatDoor
open Go Go.RowKit Go.Shelf

attribute [local go_sem] Oper.semAt_some

/-- the pieces of a text, apart at a byte -/
def piecesB (c : UInt8) (s : ByteArray) : List ByteArray := (VP.pieces c s.data.toList).map fun l => ⟨l.toArray⟩

theorem cut_sizes {c : UInt8} {s : ByteArray} {a b : List UInt8} (h : VP.cutAt c s.data.toList = some (a, b)) :
    (s.extract 0 a.length).data.toList = a ∧ (s.extract (a.length + 1) s.size).data.toList = b ∧ a.length + 1 ≤ s.size := by
  obtain ⟨e, _⟩ := VP.cutAt_some h
  have hl := size_eq_length s
  rw [e] at hl
  refine ⟨?_, ?_, by rw [hl]; simp⟩
  · rw [Lib.extract_data, e]; simp
  · rw [Lib.extract_to_end, e]; simp

theorem piecesB_none {c : UInt8} {s : ByteArray} (h : VP.cutAt c s.data.toList = none) : piecesB c s = [s] := by
  unfold piecesB
  rw [VP.pieces_none h]
  simp only [List.map_cons, List.map_nil, mk_data]
theorem piecesB_some {c : UInt8} {s : ByteArray} {a b : List UInt8} (h : VP.cutAt c s.data.toList = some (a, b)) : piecesB c s = s.extract 0 a.length :: piecesB c (s.extract (a.length + 1) s.size) := by
  obtain ⟨h1, h2, _⟩ := cut_sizes h
  unfold piecesB
  rw [VP.pieces_some h, h2, List.map_cons]
  congr 1
  exact (data_inj h1).symm

/-- the three boxes of the function value: the text, the separator, a nought -/
def SplitBoxes (W : World) (b : Nat) (s : ByteArray) (c : UInt8) : Prop :=
  Boxed W b 9 (.string s) ∧ Boxed W (b + 1) 9 (.string ⟨#[c]⟩) ∧ Boxed W (b + 2) 3 (.int .i64 0)
/-- what a round keeps for the iterator -/
def KeepsSplit (b : Nat) (W W' : World) : Prop := ∀ k, b ≤ k → k ≤ b + 2 → W'.heap[k]? = W.heap[k]?
theorem KeepsSplit.refl (b : Nat) (W : World) : KeepsSplit b W W := fun _ _ _ => rfl
theorem KeepsSplit.trans {b : Nat} {A B C : World} (h : KeepsSplit b A B) (k : KeepsSplit b B C) : KeepsSplit b A C := fun i h1 h2 => (k i h1 h2).trans (h i h1 h2)
theorem SplitBoxes.keep {W W' : World} {b : Nat} {s : ByteArray} {c : UInt8} (h : SplitBoxes W b s c) (hk : KeepsSplit b W W') : SplitBoxes W' b s c :=
  ⟨(hk b (Nat.le_refl _) (by omega)).trans h.1, (hk (b + 1) (by omega) (by omega)).trans h.2.1, (hk (b + 2) (by omega) (Nat.le_refl _)).trans h.2.2⟩

end Go.Proofs.YtofogjfemlhffaaGreatDoor

namespace Go.Proofs.YtofogjfemlhffaaGreatDoor
open Go.RowKit

theorem indexB_one (s : ByteArray) (c : UInt8) : Lib.indexB s ⟨#[c]⟩ = Lib.indexByte s.data.toList c := Lib.index_one _ _

theorem splitB_pieces (c : UInt8) : ∀ (n : Nat) (s : ByteArray), s.size ≤ n → Lib.splitB ⟨#[c]⟩ 0 (Lib.countB s ⟨#[c]⟩) s = piecesB c s
  | n, s, hn => by
    cases hc : VP.cutAt c s.data.toList with
    | none =>
      have hi : Lib.indexB s ⟨#[c]⟩ = -1 := by rw [indexB_one]; exact indexB_none hc
      rw [Lib.countB_miss _ _ hi, Lib.splitB_miss _ _ _ _ hi, piecesB_none hc]
    | some p =>
      obtain ⟨a, b⟩ := p
      have hi : Lib.indexB s ⟨#[c]⟩ = a.length := by rw [indexB_one]; exact indexB_some hc
      have hz := (cut_sizes hc).2.2
      rw [Lib.countB_hit s ⟨#[c]⟩ _ (Nat.le_refl 1) hi, Nat.add_comm, Lib.splitB_hit _ _ _ _ _ hi, piecesB_some hc]
      cases n with
      | zero => omega
      | succ n => exact congrArg _ (splitB_pieces c n _ (by show (s.extract (a.length + 1) s.size).size ≤ n; simp; omega))

end Go.Proofs.YtofogjfemlhffaaGreatDoor

namespace Go.Proofs.YtofogjfemlhffaaGreatDoor.VP

theorem contains_cons (c : UInt8) (l sub : List UInt8) : Lib.contains (c :: l) sub = (sub.isPrefixOf (c :: l) || Lib.contains l sub) := by
  unfold Lib.contains
  rw [show Lib.index (c :: l) sub = if sub.isPrefixOf (c :: l) then 0 else if Lib.index l sub == -1 then -1 else Lib.index l sub + 1 from rfl]
  have hge := Lib.index_ge l sub
  cases h : sub.isPrefixOf (c :: l) with
  | true => simp
  | false =>
    simp only [Bool.false_or]
    by_cases h1 : Lib.index l sub = -1
    · simp [h1]
    · have : (Lib.index l sub == -1) = false := by rw [beq_eq_false_iff_ne]; exact h1
      rw [this]
      simp only [Bool.false_eq_true, if_false]
      rw [decide_eq_true (by omega : (0 : Int) ≤ Lib.index l sub + 1), decide_eq_true (by omega : (0 : Int) ≤ Lib.index l sub)]

theorem slashes_eq (l : List UInt8) : slashes l = (Lib.contains l [47, 47] || l.getLast? == some 47) := by
  induction l with
  | nil => rfl
  | cons c l ih =>
    cases l with
    | nil =>
      rw [contains_cons]
      show (c == 47) = _
      have e1 : ([47, 47] : List UInt8).isPrefixOf [c] = false := by simp [List.isPrefixOf]
      have e2 : Lib.contains [] [47, 47] = false := by rfl
      rw [e1, e2]
      simp
    | cons d l =>
      rw [contains_cons]
      show ((c == 47 && d == 47) || slashes (d :: l)) = _
      rw [ih]
      have e1 : ([47, 47] : List UInt8).isPrefixOf (c :: d :: l) = (c == 47 && d == 47) := by
        simp [List.isPrefixOf, BEq.comm (a := (47 : UInt8))]
      rw [e1, List.getLast?_cons_cons, Bool.or_assoc]

theorem idx_cons (c : UInt8) (l : List UInt8) (x : UInt8) : decide (0 ≤ Lib.indexByte (c :: l) x) = (c == x || decide (0 ≤ Lib.indexByte l x)) := by
  rw [show Lib.indexByte (c :: l) x = if c == x then 0 else if Lib.indexByte l x == -1 then -1 else Lib.indexByte l x + 1 from rfl]
  have hge := Lib.indexByte_ge l x
  cases h : c == x with
  | true => simp
  | false =>
    simp only [Bool.false_or, Bool.false_eq_true, if_false]
    by_cases h1 : Lib.indexByte l x = -1
    · simp [h1]
    · have : (Lib.indexByte l x == -1) = false := by rw [beq_eq_false_iff_ne]; exact h1
      rw [this]
      simp only [Bool.false_eq_true, if_false]
      rw [decide_eq_true (by omega : (0 : Int) ≤ Lib.indexByte l x + 1), decide_eq_true (by omega : (0 : Int) ≤ Lib.indexByte l x)]

theorem all_ok (l : List UInt8) : (l.all fun c => okP c && !(c == 44)) = (l.all okP && !decide (0 ≤ Lib.indexByte l 44)) := by
  induction l with
  | nil => rfl
  | cons c l ih =>
    rw [List.all_cons, List.all_cons, ih, idx_cons]
    cases okP c <;> cases (c == 44) <;> cases l.all okP <;> cases decide (0 ≤ Lib.indexByte l 44) <;> rfl

/-- what the program asks -/
theorem pathP_prog (l : List UInt8) : pathP l = (l.all okP && (decide (1 ≤ l.length) && (decide (l.length ≤ 60) && (!Lib.contains l [47, 47] && (!decide (0 ≤ Lib.indexByte l 44) && (!(l.getLast? == some 47) && startsP l)))))) := by
  unfold pathP
  rw [slashes_eq, all_ok]
  cases l.all okP <;> cases decide (1 ≤ l.length) <;> cases decide (l.length ≤ 60) <;> cases Lib.contains l [47, 47] <;> cases decide (0 ≤ Lib.indexByte l 44) <;> cases (l.getLast? == some 47) <;> cases startsP l <;> rfl

/-- what the reference asks of the byte at a place -/
def refOk (l : List UInt8) (i : Nat) : Bool :=
  match l[i]? with
  | none => true
  | some c => okP c && !(c == 44) && !(c == 47 && (match l[i + 1]? with
    | none => true
    | some d => d == 47))
theorem refOk_all (l : List UInt8) : allAt l.length (refOk l) = ((l.all fun c => okP c && !(c == 44)) && !slashes l) := by
  induction l with
  | nil => rfl
  | cons c l ih =>
    have e : allAt (c :: l).length (refOk (c :: l)) = (refOk (c :: l) 0 && allAt l.length (refOk l)) := by
      unfold allAt
      rw [List.length_cons, List.range_succ_eq_map, List.all_cons, List.all_map]
      congr 1
    rw [e, ih, List.all_cons]
    have e0 : refOk (c :: l) 0 = (okP c && !(c == 44) && !(c == 47 && (match l[0]? with
      | none => true
      | some d => d == 47))) := rfl
    rw [e0]
    cases l with
    | nil =>
      show (_ && (_ && !slashes [])) = (_ && !slashes [c])
      simp [slashes]
    | cons d l =>
      show _ = (_ && !((c == 47 && d == 47) || slashes (d :: l)))
      simp only [List.getElem?_cons_zero]
      cases okP c && !(c == 44) <;> cases (c == 47 && d == 47) <;> cases ((d :: l).all fun c => okP c && !(c == 44)) <;> cases slashes (d :: l) <;> rfl
theorem pathP_ref (l : List UInt8) : pathP l = (allAt l.length (refOk l) && (decide (1 ≤ l.length) && (decide (l.length ≤ 60) && startsP l))) := by
  unfold pathP
  rw [refOk_all]
  cases (l.all fun c => okP c && !(c == 44)) <;> cases slashes l <;> cases decide (1 ≤ l.length) <;> cases decide (l.length ≤ 60) <;> cases startsP l <;> rfl
end Go.Proofs.YtofogjfemlhffaaGreatDoor.VP

namespace Go.Proofs.YtofogjfemlhffaaGreatDoor
open Go.RowKit

theorem last_get (s : ByteArray) (n : Nat) (h : s.size = n + 1) : s.data.toList.getLast? = some (s[n]'(by omega)) := by
  have hl := size_eq_length s
  have e : s.data.toList.length - 1 = n := by omega
  rw [List.getLast?_eq_getElem?, e, List.getElem?_eq_getElem (by omega)]
  rfl
theorem okP_at {s : ByteArray} {k : Nat} (hlt : k < s.size) (h : VP.okP s[k] = false) : s.data.toList.all VP.okP = false := by
  rw [← List.take_append_drop k s.data.toList, drop_cons s k hlt, List.all_append, List.all_cons, h]
  simp
theorem startsP_eq (s : ByteArray) (h : 0 < s.size) : VP.startsP s.data.toList = (VP.lett s[0] || VP.dig s[0]) := by
  rw [list_cons s h]; rfl

set_option maxHeartbeats 6000000 in
set_option maxRecDepth 100000 in
theorem path_calls (s : ByteArray) (w : World) (hE : Env w) (hs : s.size ≤ 1000000) : Calls Tryz.prog 83 #[.string s] w (BoolIs (VP.pathP s.data.toList) w) := by
  obtain ⟨bS, hbS⟩ : ∃ b, Lib.contains s.data.toList [47, 47] = b := ⟨_, rfl⟩
  obtain ⟨bC, hbC⟩ : ∃ b, decide (0 ≤ Lib.indexByte s.data.toList 44) = b := ⟨_, rfl⟩
  obtain ⟨ba, hba⟩ : ∃ b, s.data.toList.all VP.okP = b := ⟨_, rfl⟩
  have hl := size_eq_length s
  have F := Lib.hid (VP.pathP_prog s.data.toList)
  rw [hbS, hbC, ← hl] at F
  have HA := Lib.hid hba
  have CS := Lib.hid (show Calls Tryz.prog 114 #[.string s, .string ⟨#[47, 47]⟩] w fun e w' => e = .returned (.bool bS) ∧ w = w' from by
    obtain ⟨⟨m, hm⟩, _⟩ := hE
    exact (Tryz.strings_Contains s ⟨#[47, 47]⟩ m w (by omega) hm).mono fun e w' ⟨he, hw⟩ => ⟨by rw [he, ← hbS], hw.symm⟩)
  have CC := Lib.hid (show Calls Tryz.prog 114 #[.string s, .string ⟨#[44]⟩] w fun e w' => e = .returned (.bool bC) ∧ w = w' from
    (Tryz.strings_Contains_one s 44 w).mono fun e w' ⟨he, hw⟩ => ⟨by rw [he, ← hbC], hw.symm⟩)
  have HL := Lib.hid hl
  clear hbS hbC hba hl hE
  go_enter Tryz.func83, Tryz.ntmps83
  go_wp2_with fail
  go_loop [7] (fun i => ∃ k : Nat, k ≤ s.size ∧ i = .int .i64 k ∧ Hid ((s.data.toList.take k).all VP.okP = true)) (fun i => s.size - (intOf i).toNat)
  case atStart => exact ⟨0, Nat.zero_le _, rfl, rfl⟩
  case round =>
    obtain ⟨k, hk, rfl, hall⟩ := hrel
    by_cases hlt : k < s.size
    · have hts := Lib.hid (take_snoc s k hlt)
      have hbad := Lib.hid (okP_at (s := s) (k := k) hlt)
      have hbt : s[k].toNat < 256 := s[k].toNat_lt
      have ho := Lib.hid (show VP.okP s[k] = (decide (33 ≤ s[k].toNat) && decide (s[k].toNat ≤ 126)) from rfl)
      by_cases h1 : s[k].toNat < 33
      · go_wp2_with fail
        go_ret
        exact ⟨ret_bool (by rw [F.out, hbad.out (by rw [ho.out, decide_eq_false (by omega)]; rfl)] <;> rfl), Below.refl _ _⟩
      by_cases h2 : 126 < s[k].toNat
      · go_wp2_with fail
        go_ret
        exact ⟨ret_bool (by rw [F.out, hbad.out (by rw [ho.out, decide_eq_false (by omega : ¬ s[k].toNat ≤ 126), Bool.and_false])] <;> rfl), Below.refl _ _⟩
      have HP : Hid (VP.okP s[k] = true) := Lib.hid (by rw [ho.out, decide_eq_true (by omega), decide_eq_true (by omega)]; rfl)
      go_wp2_with fail
      go_round
      case rel => exact ⟨k + 1, by omega, by go_num, Lib.hid (by rw [hts.out, List.all_append, hall.out]; simp [HP.out])⟩
      case measure => simp [intOf]; omega
    · have ha : Hid (s.data.toList.all VP.okP = true) := Lib.hid (by
        have hl := HL.out
        have := hall.out
        rwa [List.take_of_length_le (by omega)] at this)
      clear hall HA
      rw [ha.out] at F
      clear ha
      by_cases h0 : s.size = 0
      · have hz := isEmpty_true s h0
        go_wp2_with fail
        go_ret
        exact ⟨ret_bool (by rw [F.out, decide_eq_false (by omega : ¬ 1 ≤ s.size)]; rfl), Below.refl _ _⟩
      have hz := isEmpty_false s (by omega)
      by_cases h60 : s.size ≤ 60
      case neg =>
        go_wp2_with fail
        go_ret
        exact ⟨ret_bool (by rw [F.out, decide_eq_false h60]; simp), Below.refl _ _⟩
      cases bS with
      | true =>
        go_wp2_with fail
        refine CS.out.mono ?_
        rintro E w' ⟨rfl, rfl⟩
        go_wp2_with fail
        go_ret
        exact ⟨ret_bool (by rw [F.out]; simp), Below.refl _ _⟩
      | false =>
      cases bC with
      | true =>
        go_wp2_with fail
        refine CS.out.mono ?_
        rintro E w' ⟨rfl, rfl⟩
        go_wp2_with fail
        refine CC.out.mono ?_
        rintro E w' ⟨rfl, rfl⟩
        go_wp2_with fail
        go_ret
        exact ⟨ret_bool (by rw [F.out]; simp), Below.refl _ _⟩
      | false =>
      obtain ⟨n, hn⟩ : ∃ n, s.size = n + 1 := ⟨s.size - 1, by omega⟩
      have hlast := Lib.hid (last_get s n hn)
      have hst := Lib.hid (startsP_eq s (by omega))
      have hbt : s[0].toNat < 256 := s[0].toNat_lt
      have hnt : (s[n]'(by omega)).toNat < 256 := (s[n]'(by omega)).toNat_lt
      have hf := Lib.hid (show VP.lett s[0] = decide ((97 ≤ s[0].toNat ∧ s[0].toNat ≤ 122) ∨ (65 ≤ s[0].toNat ∧ s[0].toNat ≤ 90)) by unfold VP.lett; simp)
      have hg := Lib.hid (show VP.dig s[0] = decide (48 ≤ s[0].toNat ∧ s[0].toNat ≤ 57) by unfold VP.dig; simp)
      go_wp2_with fail
      refine CS.out.mono ?_
      rintro E w' ⟨rfl, rfl⟩
      go_wp2_with fail
      refine CC.out.mono ?_
      rintro E w' ⟨rfl, rfl⟩
      by_cases h47 : (s[n]'(by omega)).toNat = 47
      · have h47' : (s[n]'(by omega)) = 47 := UInt8.toNat_inj.1 h47
        go_wp2_with fail
        go_ret
        exact ⟨ret_bool (by rw [F.out, hlast.out, h47']; simp), Below.refl _ _⟩
      have h47' : ((some (s[n]'(by omega)) : Option UInt8) == some 47) = false := by
        rw [beq_eq_false_iff_ne]
        intro e
        injection e with e
        exact h47 (by rw [e]; rfl)
      have G := Lib.hid (show VP.pathP s.data.toList = (VP.lett s[0] || VP.dig s[0]) by rw [F.out, hlast.out, h47', hst.out, decide_eq_true (by omega : 1 ≤ s.size), decide_eq_true h60]; simp)
      clear F hlast hst h47'
      have hb47 : (((s[n]'(by omega)).toNat : Int) != 47) = true := by rw [bne_iff_ne]; omega
      go_upto_region 8 with fail
      have hc : s[0].toNat < 48 ∨ (48 ≤ s[0].toNat ∧ s[0].toNat ≤ 57) ∨ (58 ≤ s[0].toNat ∧ s[0].toNat < 65) ∨ (65 ≤ s[0].toNat ∧ s[0].toNat ≤ 90) ∨ (91 ≤ s[0].toNat ∧ s[0].toNat < 97) ∨ (97 ≤ s[0].toNat ∧ s[0].toNat ≤ 122) ∨ 123 ≤ s[0].toNat := by omega
      rcases hc with h | ⟨h1, h2⟩ | ⟨h1, h2⟩ | ⟨h1, h2⟩ | ⟨h1, h2⟩ | ⟨h1, h2⟩ | h
      all_goals
        go_wp2_with fail
        go_ret
        refine ⟨ret_bool ?_, Below.refl _ _⟩
        rw [G.out, hf.out, hg.out, Bool.eq_iff_iff]
        simp <;> omega

theorem pathF_calls (s : ByteArray) (w : World) (hE : Env w) (hs : s.size ≤ 1000000) : Calls Tryz.prog 55 #[.string s] w (BoolIs (VP.pathP s.data.toList) w) := by
  have H := Lib.hid (path_calls s w hE hs)
  clear hE
  go_enter Tryz.func55, Tryz.ntmps55
  go_wp2_with fail
  refine H.out.mono ?_
  rintro E w1 ⟨rfl, hb⟩
  go_wp2_with fail
  go_ret
  exact ⟨rfl, hb⟩
end Go.Proofs.YtofogjfemlhffaaGreatDoor
