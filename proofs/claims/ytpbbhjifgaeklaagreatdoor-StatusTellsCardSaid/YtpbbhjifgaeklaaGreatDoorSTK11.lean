/- Fields, as lines; what a package says of itself: plain Lean over lists of bytes. · Slices in memory whose elements have so many cells each: texts, fields, files. · A range over an iterator that keeps its place in a cell of its own (strings.SplitSeq): the law for the loop, outside and within another such loop; every way out of the body is its end or a return. · strings.SplitSeq at a separator of one byte: its contract as an iterator. · strings.Split at one byte. -/
import Derived.Test.YtpbbhjifgaeklaaGreatDoorSTK10
import Derived.Test.YtpbbhjifgaeklaaGreatDoorSTK1
import Derived.RangeFuncNested
import Derived.RangeFuncBound
import Derived.RangeFuncCalls
import Derived.RangeFuncLeaves
import Derived.Test.YtpbbhjifgaeklaaGreatDoorSTK8
import Derived.Shelf.Abstract
import Derived.WalkKit
import Derived.OwnWalkIn
import Derived.TacticsInMore
import Derived.LoopNIn
import Derived.LoopIn
import Derived.Shelf.Strings.SplitShaped
namespace Go.Proofs.YtpbbhjifgaeklaaGreatDoor.VP

def allAt (n : Nat) (p : Nat → Bool) : Bool := (List.range n).all p
/-- a field: its name, and what it says -/
structure Fd where
  n : List UInt8
  v : List UInt8
deriving DecidableEq

def okN (c : UInt8) : Bool := decide (33 ≤ c.toNat) && decide (c.toNat ≤ 126) && !(c == 58)
def fnameP (l : List UInt8) : Bool := l.all okN && decide (1 ≤ l.length) && decide (l.length ≤ 24) && !(l.head? == some 35) && !(l.head? == some 45)

/-- a text without bytes of a kind at both ends -/
def cutBoth (p : UInt8 → Bool) (l : List UInt8) : List UInt8 := ((l.reverse.dropWhile p).reverse).dropWhile p
def okL (c : UInt8) : Bool := (decide (32 ≤ c.toNat) || c == 9) && !(c == 127)
def bl (c : UInt8) : Bool := c == 32 || c == 9
def flineP (l : List UInt8) : Bool := l.all okL && decide (cutBoth bl l = l)
/-- what a field says may be said -/
def valueP (v : List UInt8) : Bool :=
  match pieces 10 v with
  | [] => true
  | a :: r => flineP a && r.all (fun s => flineP s && !s.isEmpty)

def lowC (c : UInt8) : UInt8 := if 65 ≤ c.toNat ∧ c.toNat ≤ 90 then c + 32 else c
def smallP (l : List UInt8) : List UInt8 := l.map lowC

def fieldOk (l : List Fd) (i : Nat) : Bool :=
  match l[i]? with
  | none => true
  | some f => fnameP f.n && !((l.take i).any fun g => decide (smallP g.n = smallP f.n)) && valueP f.v
/-! paths -/
def okP (c : UInt8) : Bool := decide (33 ≤ c.toNat) && decide (c.toNat ≤ 126)
-- (letters: lett)
def startsP : List UInt8 → Bool
  | [] => false
  | c :: _ => lett c || dig c
/-- a / ahead of a /, or at the end -/
def slashes : List UInt8 → Bool
  | [] => false
  | [c] => c == 47
  | c :: d :: l => (c == 47 && d == 47) || slashes (d :: l)
def pathP (l : List UInt8) : Bool := l.all (fun c => okP c && !(c == 44)) && !slashes l && decide (1 ≤ l.length) && decide (l.length ≤ 60) && startsP l
def pathOk (l : List (List UInt8)) (i : Nat) : Bool :=
  match l[i]? with
  | none => true
  | some s => pathP s && !((l.take i).any fun t => decide (t = s))
/-! what a package says of itself -/
structure Pk where
  n : List UInt8
  e : Int
  u : List UInt8
  r : List UInt8
  dep : List (List Tm)
  ahead : List (List Tm)
  ag : List Tm
  br : List Tm
  re : List Tm
  pr : List Tm
  se : List (List UInt8)
  li : List (List UInt8)

def printS (l : List Tm) : List UInt8 := printL (l.map fun t => [t])
end Go.Proofs.YtpbbhjifgaeklaaGreatDoor.VP

namespace Go.Proofs.YtpbbhjifgaeklaaGreatDoor
open Go Go.RowKit

section
variable {α : Type} {cs : α → List Value} {size : Nat}
/-- this value is a slice; the cells of its elements are these -/
def SlC (cs : α → List Value) (w : World) (v : Value) (xs : List α) : Prop :=
  ∃ A c, v = .slice A xs.length c ∧ xs.length ≤ c ∧ xs.length ≤ 9223372036854775807 ∧ (xs ≠ [] → ∃ b off, A = some ⟨b, off, none⟩ ∧ ∀ (j : Nat) (u : Value), (xs.flatMap cs)[j]? = some u → w.cell? ⟨b, off + j, none⟩ = some u)

theorem SlC.below {w w' : World} {v : Value} {xs : List α} (h : SlC cs w v xs) (hb : Below w.heap.size w w') : SlC cs w' v xs := by
  obtain ⟨A, c, hv, hc, hm, h⟩ := h
  refine ⟨A, c, hv, hc, hm, fun hn => ?_⟩
  obtain ⟨b, off, hA, hi⟩ := h hn
  exact ⟨b, off, hA, fun j u hj => kept hb (hi j u hj)⟩

theorem SlC.nil (w : World) (A : Option Addr) (c : Nat) : SlC cs w (.slice A 0 c) [] := ⟨A, c, rfl, Nat.zero_le _, by simp, fun h => absurd rfl h⟩

theorem flat_at (hs : ∀ x, (cs x).length = size) {xs : List α} {i : Nat} {x : α} (h : xs[i]? = some x) (r : Nat) (hr : r < size) : (xs.flatMap cs)[i * size + r]? = (cs x)[r]? := by
  induction xs generalizing i with
  | nil => cases h
  | cons a xs ih =>
    rw [List.flatMap_cons]
    cases i with
    | zero =>
      obtain rfl := Option.some.inj h
      rw [List.getElem?_append_left (by rw [hs]; omega)]
      congr 1
      omega
    | succ i =>
      rw [List.getElem?_append_right (by rw [hs, Nat.succ_mul]; omega), hs, show (i + 1) * size + r - size = i * size + r by rw [Nat.succ_mul]; omega]
      exact ih h
theorem SlC.src {w : World} {v : Value} {xs : List α} (h : SlC cs w v xs) : SrcIs w v xs.length (xs.flatMap cs) := by
  obtain ⟨A, c, hv, _, _, h⟩ := h
  exact ⟨A, c, hv, fun hn => h (fun e => hn (by rw [e]; rfl))⟩

theorem SlC.take {w : World} {A : Option Addr} {n c : Nat} {xs : List α} (h : SlC cs w (.slice A n c) xs) {k : Nat} (hk : k ≤ xs.length) : SlC cs w (.slice A k c) (xs.take k) := by
  obtain ⟨A', c', hv, hc, hm, h⟩ := h
  injection hv with h1 h2 h3
  subst h1
  subst h3
  refine ⟨A, c, by rw [List.length_take, Nat.min_eq_left hk], by rw [List.length_take]; omega, by rw [List.length_take]; omega, fun hn => ?_⟩
  obtain ⟨b, off, hA, hi⟩ := h (fun e => hn (by rw [e]; simp))
  refine ⟨b, off, hA, fun j u hj => hi j u ?_⟩
  have e : xs.flatMap cs = (xs.take k).flatMap cs ++ (xs.drop k).flatMap cs := by rw [← List.flatMap_append, List.take_append_drop]
  rw [e, List.getElem?_append_left (List.getElem?_eq_some_iff.1 hj).1]
  exact hj
end

/-! texts -/
def strC (s : ByteArray) : List Value := [.string s]
def StrsAt (w : World) (v : Value) (ss : List ByteArray) : Prop := SlC strC w v ss
theorem StrsAt.below {w w' : World} {v : Value} {ss : List ByteArray} (h : StrsAt w v ss) (hb : Below w.heap.size w w') : StrsAt w' v ss := SlC.below h hb
theorem flat_strs (ss : List ByteArray) : ss.flatMap strC = ss.map Value.string := by
  induction ss with
  | nil => rfl
  | cons a ss ih => rw [List.flatMap_cons, ih]; rfl
theorem StrsAt.open {w : World} {v : Value} {ss : List ByteArray} (h : StrsAt w v ss) :
    ∃ A c, v = .slice A ss.length c ∧ ss.length ≤ c ∧ ss.length ≤ 9223372036854775807 ∧ (ss ≠ [] → ∃ b off, A = some ⟨b, off, none⟩ ∧ ∀ (i : Nat) (s : ByteArray), ss[i]? = some s → w.cell? ⟨b, off + i, none⟩ = some (.string s)) := by
  obtain ⟨A, c, hv, hc, hm, h⟩ := h
  refine ⟨A, c, hv, hc, hm, fun hn => ?_⟩
  obtain ⟨b, off, hA, hi⟩ := h hn
  refine ⟨b, off, hA, fun i s hs => hi i _ ?_⟩
  rw [flat_strs, List.getElem?_map, hs]; rfl

/-! fields, files: two texts each -/
structure Fv where
  n : ByteArray
  v : ByteArray
def Fv.fd (f : Fv) : VP.Fd := ⟨f.n.data.toList, f.v.data.toList⟩
def fldC (f : Fv) : List Value := [.string f.n, .string f.v]
def FieldsAt (w : World) (v : Value) (fs : List Fv) : Prop := SlC fldC w v fs
theorem FieldsAt.below {w w' : World} {v : Value} {fs : List Fv} (h : FieldsAt w v fs) (hb : Below w.heap.size w w') : FieldsAt w' v fs := SlC.below h hb
theorem FieldsAt.open {w : World} {v : Value} {fs : List Fv} (h : FieldsAt w v fs) :
    ∃ A c, v = .slice A fs.length c ∧ fs.length ≤ c ∧ fs.length ≤ 9223372036854775807 ∧ (fs ≠ [] → ∃ b off, A = some ⟨b, off, none⟩ ∧ ∀ (i : Nat) (f : Fv), fs[i]? = some f → w.cell? ⟨b, off + i * 2, none⟩ = some (.string f.n) ∧ w.cell? ⟨b, off + i * 2 + 1, none⟩ = some (.string f.v)) := by
  obtain ⟨A, c, hv, hc, hm, h⟩ := h
  refine ⟨A, c, hv, hc, hm, fun hn => ?_⟩
  obtain ⟨b, off, hA, hi⟩ := h hn
  have hs : ∀ f : Fv, (fldC f).length = 2 := fun _ => rfl
  refine ⟨b, off, hA, fun i f hf => ⟨?_, ?_⟩⟩
  · exact hi (i * 2) _ (flat_at hs hf 0 (by omega))
  · rw [Nat.add_assoc]
    exact hi (i * 2 + 1) _ (flat_at hs hf 1 (by omega))
theorem FieldsAt.take {w : World} {A : Option Addr} {n c : Nat} {fs : List Fv} (h : FieldsAt w (.slice A n c) fs) {k : Nat} (hk : k ≤ fs.length) : FieldsAt w (.slice A k c) (fs.take k) := SlC.take h hk
theorem StrsAt.take {w : World} {A : Option Addr} {n c : Nat} {ss : List ByteArray} (h : StrsAt w (.slice A n c) ss) {k : Nat} (hk : k ≤ ss.length) : StrsAt w (.slice A k c) (ss.take k) := SlC.take h hk
end Go.Proofs.YtpbbhjifgaeklaaGreatDoor

namespace Go.Proofs.YtpbbhjifgaeklaaGreatDoor
open Go Go.RowKit

section
variable {F : Fence} {n : Nat} {P : Program} {w : World}

/-- what the caller says abides the turn of the iterator's own cell, and of what is no cells from B on -/
def OwnBox {β : Type} (B Bs : Nat) (I : β → World → Prop) : Prop :=
  ∀ s W W' row, I s W → W.grownBy W' row → (∀ r, row = some r → r = Bs ∨ (B ≤ r ∧ ∃ o : Obj, W.heap[r]? = some o ∧ o.isCells = false)) → I s W'
theorem OwnBox.alloc {β : Type} {B Bs : Nat} {I : β → World → Prop} (h : OwnBox B Bs I) {s : β} {W : World} (o : Obj) (hs : I s W) : I s (W.alloc o) :=
  h s W _ none hs (World.grownBy_alloc W o none) (fun r e => by cases e)
end
end Go.Proofs.YtpbbhjifgaeklaaGreatDoor

namespace Go.Proofs.YtpbbhjifgaeklaaGreatDoor
open Go Go.RowKit Go.Shelf

attribute [local go_sem] Oper.semAt_some

/-- the pieces of a text, apart at a byte -/
def piecesB (c : UInt8) (s : ByteArray) : List ByteArray := (VP.pieces c s.data.toList).map fun l => ⟨l.toArray⟩

theorem cut_sizes {c : UInt8} {s : ByteArray} {a b : List UInt8} (h : VP.cutAt c s.data.toList = some (a, b)) :
    (s.extract 0 a.length).data.toList = a ∧ (s.extract (a.length + 1) s.size).data.toList = b ∧ a.length + 1 ≤ s.size := by
  obtain ⟨e, _⟩ := VP.cutAt_some h
  have hl := size_eq_length s
  rw [e] at hl
  refine ⟨?_, ?_, by rw [hl]; simp⟩
  · rw [Lib.extract_data, e]; simp
  · rw [Lib.extract_to_end, e]; simp

theorem piecesB_none {c : UInt8} {s : ByteArray} (h : VP.cutAt c s.data.toList = none) : piecesB c s = [s] := by
  unfold piecesB
  rw [VP.pieces_none h]
  simp only [List.map_cons, List.map_nil, mk_data]
theorem piecesB_some {c : UInt8} {s : ByteArray} {a b : List UInt8} (h : VP.cutAt c s.data.toList = some (a, b)) : piecesB c s = s.extract 0 a.length :: piecesB c (s.extract (a.length + 1) s.size) := by
  obtain ⟨h1, h2, _⟩ := cut_sizes h
  unfold piecesB
  rw [VP.pieces_some h, h2, List.map_cons]
  congr 1
  exact (data_inj h1).symm

/-- the three boxes of the function value: the text, the separator, a nought -/
def SplitBoxes (W : World) (b : Nat) (s : ByteArray) (c : UInt8) : Prop :=
  Boxed W b 9 (.string s) ∧ Boxed W (b + 1) 9 (.string ⟨#[c]⟩) ∧ Boxed W (b + 2) 3 (.int .i64 0)
/-- what a round keeps for the iterator -/
def KeepsSplit (b : Nat) (W W' : World) : Prop := ∀ k, b ≤ k → k ≤ b + 2 → W'.heap[k]? = W.heap[k]?
theorem KeepsSplit.refl (b : Nat) (W : World) : KeepsSplit b W W := fun _ _ _ => rfl
theorem KeepsSplit.trans {b : Nat} {A B C : World} (h : KeepsSplit b A B) (k : KeepsSplit b B C) : KeepsSplit b A C := fun i h1 h2 => (k i h1 h2).trans (h i h1 h2)
theorem SplitBoxes.keep {W W' : World} {b : Nat} {s : ByteArray} {c : UInt8} (h : SplitBoxes W b s c) (hk : KeepsSplit b W W') : SplitBoxes W' b s c :=
  ⟨(hk b (Nat.le_refl _) (by omega)).trans h.1, (hk (b + 1) (by omega) (by omega)).trans h.2.1, (hk (b + 2) (by omega) (Nat.le_refl _)).trans h.2.2⟩

end Go.Proofs.YtpbbhjifgaeklaaGreatDoor

namespace Go.Proofs.YtpbbhjifgaeklaaGreatDoor
open Go.RowKit

theorem indexB_one (s : ByteArray) (c : UInt8) : Lib.indexB s ⟨#[c]⟩ = Lib.indexByte s.data.toList c := Lib.index_one _ _

theorem splitB_pieces (c : UInt8) : ∀ (n : Nat) (s : ByteArray), s.size ≤ n → Lib.splitB ⟨#[c]⟩ 0 (Lib.countB s ⟨#[c]⟩) s = piecesB c s
  | n, s, hn => by
    cases hc : VP.cutAt c s.data.toList with
    | none =>
      have hi : Lib.indexB s ⟨#[c]⟩ = -1 := by rw [indexB_one]; exact indexB_none hc
      rw [Lib.countB_miss _ _ hi, Lib.splitB_miss _ _ _ _ hi, piecesB_none hc]
    | some p =>
      obtain ⟨a, b⟩ := p
      have hi : Lib.indexB s ⟨#[c]⟩ = a.length := by rw [indexB_one]; exact indexB_some hc
      have hz := (cut_sizes hc).2.2
      rw [Lib.countB_hit s ⟨#[c]⟩ _ (Nat.le_refl 1) hi, Nat.add_comm, Lib.splitB_hit _ _ _ _ _ hi, piecesB_some hc]
      cases n with
      | zero => omega
      | succ n => exact congrArg _ (splitB_pieces c n _ (by show (s.extract (a.length + 1) s.size).size ≤ n; simp; omega))

def SplitIs (s : ByteArray) (c : UInt8) (w : World) (E : Ending) (w' : World) : Prop :=
  ∃ n, E = .returned (.slice (some ⟨w.heap.size, 0, none⟩) n n) ∧ n = (piecesB c s).length ∧ Below w.heap.size w w' ∧ ∀ (i : Nat) (x : ByteArray), (piecesB c s)[i]? = some x → w'.cell? ⟨w.heap.size, i, none⟩ = some (.string x)

theorem call_split (s : ByteArray) (c : UInt8) (w : World) (hE : Env w) (hs : s.size ≤ 1000000) : Calls Tryz.prog 61 #[.string s, .string ⟨#[c]⟩] w (SplitIs s c w) := by
  obtain ⟨m, hm⟩ := hE.1
  refine (Tryz.strings_Split s ⟨#[c]⟩ m w (by omega) hm (Nat.le_refl 1)).mono fun E w' ⟨he, hw⟩ => ?_
  have hp := splitB_pieces c s.size s (Nat.le_refl _)
  have hlen := Lib.splitB_all ⟨#[c]⟩ (Nat.le_refl 1) 0 _ s rfl
  rw [hp] at hw hlen
  refine ⟨_, he, hlen.symm, by rw [hw]; exact below_alloc _ _, fun i x hx => ?_⟩
  rw [hw, World.cell?_alloc_at _ _ _ _ rfl]
  simp [hx]
end Go.Proofs.YtpbbhjifgaeklaaGreatDoor
