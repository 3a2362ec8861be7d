/- depend.Name, and the reference's PackName: may a package be called so. · What the walks over terms share: short texts, what is asked for as lists, one of some. · What depend.term calls, in our words: blanks at the ends, a bracket, a sign ahead. · depend.term: a package that is asked for, read. · stanza.Small, the reference's Small: a name in small letters. · strings.Builder: written on, and read. · stanza.text: fields, written: the walk. · stanza.Right's closure: two names alike in small letters; is one of some fields called so. · What a field says, line by line; how long what is written is: plain. · Blocks of cells in the heap: a whole block; what is as it was from a block on; texts in blocks from a block on. -/
import Derived.Test.YtpbbhjifgaeklaaGreatDoorSOK6
import Derived.Deep.RegionHeld3
import Derived.Deep.DeepCutAuto
import Derived.Deep.CutBlock
import Derived.Test.YtpbbhjifgaeklaaGreatDoorSOK7
import Derived.Lib.ConvBytes
import Derived.Laws.IdiomStrings
import Derived.OwnWalk
import Derived.Test.YtpbbhjifgaeklaaGreatDoorSOK2
import Derived.Shelf.Strings.BuilderF
import Derived.Test.YtpbbhjifgaeklaaGreatDoorSOK4
namespace Go.Proofs.YtpbbhjifgaeklaaGreatDoor
open Go.RowKit

def firstL : List UInt8 := [97, 98, 99, 100, 101, 102, 103, 104, 105, 106, 107, 108, 109, 110, 111, 112, 113, 114, 115, 116, 117, 118, 119, 120, 121, 122, 48, 49, 50, 51, 52, 53, 54, 55, 56, 57]
def firstS : ByteArray := ⟨#[97, 98, 99, 100, 101, 102, 103, 104, 105, 106, 107, 108, 109, 110, 111, 112, 113, 114, 115, 116, 117, 118, 119, 120, 121, 122, 48, 49, 50, 51, 52, 53, 54, 55, 56, 57]⟩
def idxN (c : UInt8) : Int := Lib.indexByte firstL c
theorem idxN_fin : ∀ i : Fin 256, decide (0 ≤ idxN (UInt8.ofNat i.val)) = VP.nm0 (UInt8.ofNat i.val) := by decide +kernel
theorem idxN_nm0 (c : UInt8) : decide (0 ≤ idxN c) = VP.nm0 c := by
  have := idxN_fin ⟨c.toNat, c.toNat_lt⟩
  simpa using this
set_option maxRecDepth 100000 in
theorem call_idxN (c : UInt8) (w : World) : Calls Tryz.prog 140 #[.string ⟨#[97, 98, 99, 100, 101, 102, 103, 104, 105, 106, 107, 108, 109, 110, 111, 112, 113, 114, 115, 116, 117, 118, 119, 120, 121, 122, 48, 49, 50, 51, 52, 53, 54, 55, 56, 57]⟩, .int .u8 (c.toNat : Int)] w fun e w' => e = .returned (.int .i64 (idxN c)) ∧ w = w' :=
  (Tryz.strings_IndexByte firstS (c.toNat : Int) w).mono fun e w' ⟨he, hw⟩ => ⟨by rw [he]; unfold idxN; simp [firstS, firstL], hw.symm⟩

def cutN : List UInt8 := firstL ++ [43, 45, 46]
theorem cutN_ok : ∀ i : Fin 256, cutN.contains (UInt8.ofNat i.val) = VP.nm1 (UInt8.ofNat i.val) := by decide +kernel
theorem cutN_asc : (cutN.all fun b => decide (b.toNat < 128)) = true := by decide

set_option maxHeartbeats 1000000 in
set_option maxRecDepth 100000 in
theorem name_calls (s : ByteArray) (w : World) : Calls Tryz.prog 71 #[.string s] w (BoolIs (VP.nameP s.data.toList) w) := by
  have hl := size_eq_length s
  have F := Lib.hid (show VP.nameP s.data.toList = (decide (2 ≤ s.size) && decide (s.size ≤ 24) && VP.startsNm s.data.toList && s.data.toList.all VP.nm1) by unfold VP.nameP; rw [hl])
  clear hl
  by_cases h2 : 2 ≤ s.size
  · by_cases h24 : s.size ≤ 24
    · have hst := Lib.hid (show VP.startsNm s.data.toList = VP.nm0 s[0] by rw [list_cons s (by omega)]; rfl)
      have hd : VP.nm0 s[0] = true ∨ VP.nm0 s[0] = false := by cases VP.nm0 s[0] <;> simp
      rcases hd with hd | hd
      · have hi : 0 ≤ idxN s[0] := of_decide_eq_true ((idxN_nm0 s[0]).trans hd)
        have HD := Lib.hid hd
        clear hd
        have ha : s.data.toList.all VP.nm1 = true ∨ s.data.toList.all VP.nm1 = false := by cases s.data.toList.all VP.nm1 <;> simp
        go_enter Tryz.func71, Tryz.ntmps71
        go_wp2_with (go_at_call 140; refine (call_idxN _ _).mono ?_; rintro E w' ⟨rfl, rfl⟩)
        refine (call_trimAll s _ cutN VP.nm1 _ (by rfl) cutN_ok cutN_asc (by decide) (by omega)).mono ?_
        rintro E w1 ⟨t, rfl, ht, hb⟩
        rcases ha with ha | ha
        · have ht' : t.toList.isEmpty = true := Eq.trans ht ha
          have HA := Lib.hid ha
          clear ht ha
          go_wp2_with fail
          go_ret
          exact ⟨ret_bool (by rw [F.out, hst.out, HD.out, HA.out] <;> simp <;> omega), hb⟩
        · have ht' : t.toList.isEmpty = false := Eq.trans ht ha
          have HA := Lib.hid ha
          clear ht ha
          go_wp2_with fail
          go_ret
          exact ⟨ret_bool (by rw [F.out, HA.out] <;> simp), hb⟩
      · have hi : ¬ 0 ≤ idxN s[0] := of_decide_eq_false ((idxN_nm0 s[0]).trans hd)
        have HD := Lib.hid hd
        clear hd
        go_enter Tryz.func71, Tryz.ntmps71
        go_wp2_with (go_at_call 140; refine (call_idxN _ _).mono ?_; rintro E w' ⟨rfl, rfl⟩)
        go_ret
        exact ⟨ret_bool (by rw [F.out, hst.out, HD.out] <;> simp), Below.refl _ _⟩
    · go_enter Tryz.func71, Tryz.ntmps71
      go_wp2_with fail
      go_ret
      exact ⟨ret_bool (by rw [F.out, decide_eq_false h24] <;> simp), Below.refl _ _⟩
  · go_enter Tryz.func71, Tryz.ntmps71
    go_wp2_with fail
    go_ret
    exact ⟨ret_bool (by rw [F.out, decide_eq_false h2] <;> simp), Below.refl _ _⟩
end Go.Proofs.YtpbbhjifgaeklaaGreatDoor

namespace Go.Proofs.YtpbbhjifgaeklaaGreatDoor
open Go.RowKit

/-- texts short enough for all that reads them -/
structure Tv.small (t : Tv) : Prop where
  n : t.n.size ≤ 1000
  u : t.u.size ≤ 1000
  r : t.r.size ≤ 1000
  ok : t.ok

theorem box5 {w w1 : World} {a b c d e : Value} {t : TypeId} (hb : Below (w.alloc (.cells #[a, b, c, d, e] t)).heap.size (w.alloc (.cells #[a, b, c, d, e] t)) w1) :
    w1.cell? ⟨w.heap.size, 0, none⟩ = some a ∧ w1.cell? ⟨w.heap.size, 1, none⟩ = some b ∧ w1.cell? ⟨w.heap.size, 2, none⟩ = some c ∧ w1.cell? ⟨w.heap.size, 3, none⟩ = some d ∧ w1.cell? ⟨w.heap.size, 4, none⟩ = some e :=
  ⟨kept hb (by go_cell), kept hb (by go_cell), kept hb (by go_cell), kept hb (by go_cell), kept hb (by go_cell)⟩

theorem any_stop {α : Type} {p : α → Bool} {l : List α} {k : Nat} {x : α} (hx : l[k]? = some x) (hp : p x = true) : l.any p = true := by
  rw [List.any_eq_true]
  exact ⟨x, List.mem_of_getElem? hx, hp⟩
theorem any_take_succ {α : Type} {p : α → Bool} {l : List α} {k : Nat} {x : α} (h : (l.take k).any p = false) (hx : l[k]? = some x) (hp : p x = false) : (l.take (k + 1)).any p = false := by
  rw [List.take_add_one, hx, List.any_append, h]
  simp [hp]
theorem any_done {α : Type} {p : α → Bool} {l : List α} (h : (l.take l.length).any p = false) : l.any p = false := by rwa [List.take_length] at h

def wrongT (t : Tv) : Bool := !VP.rightT t.tm
def IdxIs (b : Bool) (w : World) (E : Ending) (w' : World) : Prop := ∃ i : Int, E = .returned (.int .i64 i) ∧ decide (0 ≤ i) = b ∧ Below w.heap.size w w'

def tmL (L : List (List Tv)) : List (List VP.Tm) := L.map fun x => x.map Tv.tm
def sumL (L : List (List Tv)) : Nat := (L.map List.length).sum
def goodL (x : List Tv) : Bool := !x.isEmpty && !x.any wrongT

theorem asked_eq (L : List (List Tv)) : VP.askedP (tmL L) = (L.all goodL && decide (sumL L ≤ 30)) := by
  unfold VP.askedP tmL
  rw [List.all_map]
  have e1 : VP.total (L.map fun x => x.map Tv.tm) = sumL L := by
    unfold VP.total sumL
    rw [List.map_map]
    congr 1
    apply List.map_congr_left
    intro x _
    simp
  rw [e1]
  congr 2
  funext x
  show (!(x.map Tv.tm).isEmpty && (x.map Tv.tm).all VP.rightT) = goodL x
  unfold goodL
  have e2 : (x.map Tv.tm).isEmpty = x.isEmpty := by cases x <;> rfl
  have e3 : (x.map Tv.tm).all VP.rightT = !x.any wrongT := by
    rw [List.all_map]
    induction x with
    | nil => rfl
    | cons t x ih =>
      have ih' := ih (by cases x <;> rfl)
      rw [List.all_cons, List.any_cons, ih', Bool.not_or]
      congr 1
      unfold wrongT
      rw [Bool.not_not]
      rfl
  rw [e2, e3]

theorem sumL_take_succ {L : List (List Tv)} {k : Nat} {x : List Tv} (hx : L[k]? = some x) : sumL (L.take (k + 1)) = sumL (L.take k) + x.length := by
  unfold sumL
  rw [List.take_add_one, hx, List.map_append, List.sum_append]
  simp
theorem sumL_take_le (L : List (List Tv)) (k : Nat) : sumL (L.take k) ≤ sumL L := by
  conv => rhs; rw [← List.take_append_drop k L]
  unfold sumL
  rw [List.map_append, List.sum_append]
  omega
end Go.Proofs.YtpbbhjifgaeklaaGreatDoor

namespace Go.Proofs.YtpbbhjifgaeklaaGreatDoor
open Go.RowKit

/-- a term in a box of the call's own -/
structure Box5 (W : World) (g : Nat) (n : ByteArray) (op e : Int) (u r : ByteArray) : Prop where
  c0 : W.cell? ⟨g, 0, none⟩ = some (.string n)
  c1 : W.cell? ⟨g, 1, none⟩ = some (.int .i64 op)
  c2 : W.cell? ⟨g, 2, none⟩ = some (.int .i64 e)
  c3 : W.cell? ⟨g, 3, none⟩ = some (.string u)
  c4 : W.cell? ⟨g, 4, none⟩ = some (.string r)
  f0 : W.frozen? ⟨g, 0, none⟩ = false
  f1 : W.frozen? ⟨g, 1, none⟩ = false
  f2 : W.frozen? ⟨g, 2, none⟩ = false
  f3 : W.frozen? ⟨g, 3, none⟩ = false
  f4 : W.frozen? ⟨g, 4, none⟩ = false

theorem Box5.below {W W' : World} {g : Nat} {n : ByteArray} {op e : Int} {u r : ByteArray} (h : Box5 W g n op e u r) (hb : Below W.heap.size W W') : Box5 W' g n op e u r :=
  have hz : g < W.heap.size := cell_lt h.c0
  ⟨kept hb h.c0, kept hb h.c1, kept hb h.c2, kept hb h.c3, kept hb h.c4, keptf hb hz h.f0, keptf hb hz h.f1, keptf hb hz h.f2, keptf hb hz h.f3, keptf hb hz h.f4⟩
theorem Box5.new (W : World) (n : ByteArray) (op e : Int) (u r : ByteArray) (t : TypeId) : Box5 (W.alloc (.cells #[.string n, .int .i64 op, .int .i64 e, .string u, .string r] t)) W.heap.size n op e u r :=
  ⟨by go_cell, by go_cell, by go_cell, by go_cell, by go_cell, by simp [go_sem], by simp [go_sem], by simp [go_sem], by simp [go_sem], by simp [go_sem]⟩
end Go.Proofs.YtpbbhjifgaeklaaGreatDoor

namespace Go.Proofs.YtpbbhjifgaeklaaGreatDoor
open Go.RowKit

/-- of some length at most, with numbers that are int's -/
structure Tv.wide (t : Tv) : Prop where
  n : t.n.size ≤ 200000
  u : t.u.size ≤ 200000
  r : t.r.size ≤ 200000
  ok : t.ok

end Go.Proofs.YtpbbhjifgaeklaaGreatDoor

namespace Go.Proofs.YtpbbhjifgaeklaaGreatDoor
open Go Go.RowKit

/-- a row of n bytes of the call's own -/
structure ByteRow (w0 w : World) (b : Nat) (n : Nat) (f : Nat → UInt8) : Prop where
  cells : ∀ j, j < n → w.cell? ⟨b, j, none⟩ = some (.int .u8 ((f j).toNat : Int))
  free : ∀ j, j < n → w.frozen? ⟨b, j, none⟩ = false
  below : Below w0.heap.size w0 w
  high : w0.heap.size ≤ b

theorem ByteRow.store {w0 w : World} {b n k : Nat} {f g : Nat → UInt8} (h : ByteRow w0 w b n f) (hk : k < n) (hg : ∀ j, j ≠ k → g j = f j) {z : Int} (hz : z = ((g k).toNat : Int)) : ByteRow w0 (w.setCell ⟨b, k, none⟩ (.int .u8 z)) b n g where
  cells := fun j hj => by
    by_cases e : j = k
    · subst e
      rw [World.cell?_setCell_same (v := .int .u8 z) (h := h.cells j hj), hz]
    · have hne : (⟨b, k, none⟩ : Addr) ≠ ⟨b, j, none⟩ := fun e' => e (by injection e' with _ h2 _; exact h2.symm)
      rw [World.cell?_setCell_other (h := hne), h.cells j hj, hg j e]
  free := fun j hj => by rw [World.frozen?_setCell]; exact h.free j hj
  below := h.below.setCell h.high _
  high := h.high
theorem ByteRow.same {w0 w : World} {b n : Nat} {f g : Nat → UInt8} (h : ByteRow w0 w b n f) (hg : ∀ j, j < n → g j = f j) : ByteRow w0 w b n g := ⟨fun j hj => by rw [hg j hj]; exact h.cells j hj, h.free, h.below, h.high⟩

end Go.Proofs.YtpbbhjifgaeklaaGreatDoor

namespace Go.Proofs.YtpbbhjifgaeklaaGreatDoor
open Go Go.RowKit

/-- the builder at b (of the call's own, from B on) holds these bytes -/
def BldAt (B b : Nat) (l : List UInt8) (w : World) : Prop := Lib.IsBuilderF 179 5 B b (Lib.byteCells l) w
theorem BldAt.alloc {B b : Nat} {l : List UInt8} {w : World} (h : BldAt B b l w) (o : Obj) : BldAt B b l (w.alloc o) := Lib.IsBuilderF.alloc h o
theorem BldAt.drewN {B b : Nat} {l : List UInt8} {w : World} (h : BldAt B b l w) (n : Nat) : BldAt B b l (w.drewN n) := h
end Go.Proofs.YtpbbhjifgaeklaaGreatDoor

namespace Go.Proofs.YtpbbhjifgaeklaaGreatDoor
open Go Go.RowKit

/-- cut at the first line feed -/
structure Cut10 (s A R : ByteArray) (m : Bool) (todo : List (List UInt8)) : Prop where
  pcs : VP.pieces 10 s.data.toList = A.data.toList :: todo
  more : m = true → VP.pieces 10 R.data.toList = todo
  none : m = false → todo = []
  small : A.size ≤ s.size
  less : m = true → R.size < s.size
/-- what is written so far, and what is to come -/
structure WroteAt (w w' : World) (T l todo : List UInt8) : Prop where
  eq : l ++ todo = T
  bld : BldAt w.heap.size w.heap.size l w'
  below : Below w.heap.size w w'
theorem WroteAt.len {w w' : World} {T l todo : List UInt8} (h : WroteAt w w' T l todo) : l.length + todo.length = T.length := by rw [← h.eq, List.length_append]
end Go.Proofs.YtpbbhjifgaeklaaGreatDoor

namespace Go.Proofs.YtpbbhjifgaeklaaGreatDoor
open Go Go.RowKit

/-- alike in small letters -/
def sameN (a b : ByteArray) : Bool := decide (VP.smallP a.data.toList = VP.smallP b.data.toList)
end Go.Proofs.YtpbbhjifgaeklaaGreatDoor

namespace Go.Proofs.YtpbbhjifgaeklaaGreatDoor.VP
theorem pieces_count (c : UInt8) (l : List UInt8) : ((pieces c l).flatMap id).length + (pieces c l).length = l.length + 1 := by
  induction l with
  | nil => rfl
  | cons x l ih =>
    rw [pieces]
    by_cases hx : x = c
    · rw [if_pos hx, List.flatMap_cons, List.length_append, List.length_cons, List.length_cons]
      simp only [id, List.length_nil]
      omega
    · rw [if_neg hx]
      cases hp : pieces c l with
      | nil => exact absurd hp (pieces_ne c l)
      | cons p ps =>
        rw [hp] at ih
        simp only [List.flatMap_cons, List.length_append, List.length_cons, id] at ih ⊢
        omega
end Go.Proofs.YtpbbhjifgaeklaaGreatDoor.VP
namespace Go.Proofs.YtpbbhjifgaeklaaGreatDoor
open Go Go.RowKit

def lineOk (ls : List ByteArray) (j : Nat) : Bool :=
  match ls[j]? with
  | none => true
  | some s => VP.flineP s.data.toList && (decide (j = 0) || !decide (s.size = 0))
/-- the fields so far are well -/
def FieldsTo (fs : List Fv) (k : Nat) : Prop := ∀ i, i < k → VP.fieldOk (fs.map Fv.fd) i = true
theorem any_named (fs : List Fv) (k : Nat) (n : ByteArray) : (((fs.map Fv.fd).take k).any fun g => decide (VP.smallP g.n = VP.smallP n.data.toList)) = (fs.take k).any (fun g => sameN g.n n) := by
  rw [← List.map_take, List.any_map]
  rfl
theorem fieldOk_at {fs : List Fv} {k : Nat} {f : Fv} (h : fs[k]? = some f) : VP.fieldOk (fs.map Fv.fd) k = (VP.fnameP f.n.data.toList && !((fs.take k).any fun g => sameN g.n f.n) && VP.valueP f.v.data.toList) := by
  unfold VP.fieldOk
  rw [List.getElem?_map, h, ← any_named]
  rfl
def stanzaB (fs : List Fv) : Bool := VP.stanzaP (fs.map Fv.fd)
theorem FieldsTo.succ {fs : List Fv} {k : Nat} {f : Fv} (h : FieldsTo fs k) (hf : fs[k]? = some f) (hb : (VP.fnameP f.n.data.toList && !((fs.take k).any fun g => sameN g.n f.n) && VP.valueP f.v.data.toList) = true) : FieldsTo fs (k + 1) := fun i hi => by
  rcases Nat.lt_or_ge i k with h' | h'
  · exact h i h'
  · obtain rfl : i = k := by omega
    exact (fieldOk_at hf).trans hb
theorem FieldsTo.done {fs : List Fv} (h : FieldsTo fs fs.length) (h1 : 1 ≤ fs.length) (h40 : fs.length ≤ 40) : stanzaB fs = decide ((VP.textL (fs.map Fv.fd)).length ≤ 4000) := by
  unfold stanzaB VP.stanzaP
  rw [VP.allAt_true (by rw [List.length_map]; exact h), List.length_map, decide_eq_true h1, decide_eq_true h40]
  rfl
end Go.Proofs.YtpbbhjifgaeklaaGreatDoor

namespace Go.Proofs.YtpbbhjifgaeklaaGreatDoor
open Go Go.RowKit

/-- a whole block of cells -/
def Blk (T : TypeId) (W : World) (b : Nat) (cs : Array Value) : Prop := W.heap[b]? = some (.cells cs T (0, 0))
theorem Blk.keep {T : TypeId} {b : Nat} {cs : Array Value} {W W' : World} (h : Blk T W b cs) (hb : Below W.heap.size W W') : Blk T W' b cs := (hb.block b (Array.getElem?_eq_some_iff.1 h).1).trans h
theorem Blk.lt {T : TypeId} {b : Nat} {cs : Array Value} {W : World} (h : Blk T W b cs) : b < W.heap.size := (Array.getElem?_eq_some_iff.1 h).1
theorem Blk.cell {T : TypeId} {b : Nat} {cs : Array Value} {W : World} (h : Blk T W b cs) {i : Nat} {v : Value} (hv : cs[i]? = some v) : W.cell? ⟨b, i, none⟩ = some v := by
  unfold World.cell?
  rw [show W.heap[b]? = _ from h]
  exact hv
theorem Blk.frozen {T : TypeId} {b : Nat} {cs : Array Value} {W : World} (h : Blk T W b cs) : ∀ i, W.frozen? ⟨b, i, none⟩ = false := fun i => by
  unfold World.frozen?
  rw [show W.heap[b]? = _ from h]
  rfl
theorem Blk.set {T : TypeId} {b : Nat} {cs : Array Value} {W : World} (h : Blk T W b cs) (i : Nat) (v : Value) : Blk T (W.setCell ⟨b, i, none⟩ v) b (cs.setIfInBounds i v) := by
  unfold Blk World.setCell at *
  dsimp only
  rw [Array.getElem?_modify, if_pos rfl, h]
  rfl
theorem blk_new (T : TypeId) (w : World) (cs : Array Value) : Blk T (w.alloc (.cells cs T)) w.heap.size cs := heap_alloc_new w _

/-- from B on all blocks are as they were -/
def UpAs (B : Nat) (W W' : World) : Prop := ∀ j, B ≤ j → j < W.heap.size → W'.heap[j]? = W.heap[j]?
theorem UpAs.of_below {B : Nat} {W W' : World} (hb : Below W.heap.size W W') : UpAs B W W' := fun j _ hj => hb.block j hj
theorem UpAs.refl (B : Nat) (W : World) : UpAs B W W := fun _ _ _ => rfl
theorem UpAs.set {B b i : Nat} {W W' : World} {v : Value} (h : UpAs B W W') (hb : b < B) : UpAs B W (W'.setCell ⟨b, i, none⟩ v) := fun j hj hl => by
  unfold World.setCell
  rw [Array.getElem?_modify, if_neg (by show ¬ b = j; omega)]
  exact h j hj hl
theorem UpAs.cell {B : Nat} {W W' : World} {a : Addr} {v : Value} (h : UpAs B W W') (hB : B ≤ a.block) (hc : W.cell? a = some v) : W'.cell? a = some v := by
  have := h a.block hB (cell_lt hc)
  unfold World.cell? at hc ⊢
  rw [this]; exact hc
/-- texts that lie in blocks from B on -/
def StrsUp (B : Nat) (W : World) (v : Value) (ss : List ByteArray) : Prop := StrsAt W v ss ∧ ∀ b off n c, v = .slice (some ⟨b, off, none⟩) n c → B ≤ b
theorem StrsUp.keep {B : Nat} {W W' : World} {v : Value} {ss : List ByteArray} (h : StrsUp B W v ss) (k : UpAs B W W') : StrsUp B W' v ss := by
  obtain ⟨⟨A, c, rfl, hc, hm, hr⟩, ht⟩ := h
  refine ⟨⟨A, c, rfl, hc, hm, fun hn => ?_⟩, ht⟩
  obtain ⟨b, off, rfl, hi⟩ := hr hn
  exact ⟨b, off, rfl, fun j u hj => k.cell (ht b off _ _ rfl) (hi j u hj)⟩
theorem StrsUp.below {B : Nat} {W W' : World} {v : Value} {ss : List ByteArray} (h : StrsUp B W v ss) (hb : Below W.heap.size W W') : StrsUp B W' v ss := h.keep (UpAs.of_below hb)
theorem StrsUp.low {B B' : Nat} {W : World} {v : Value} {ss : List ByteArray} (h : StrsUp B' W v ss) (hB : B ≤ B') : StrsUp B W v ss := ⟨h.1, fun b off n c hv => Nat.le_trans hB (h.2 b off n c hv)⟩
theorem strsUp_nil (B : Nat) (W : World) (n : Nat) : StrsUp B W (.slice none 0 n) [] := ⟨SlC.nil _ _ _, fun b off n c hv => by cases hv⟩
/-- texts that lie in the cells of a new block -/
theorem strsUp_cells {W : World} {g : Nat} {ss : List ByteArray} (hm : ss.length ≤ 9223372036854775807) (h : ∀ (i : Nat) (x : ByteArray), ss[i]? = some x → W.cell? ⟨g, i, none⟩ = some (.string x)) : StrsUp g W (.slice (some ⟨g, 0, none⟩) ss.length ss.length) ss := by
  refine ⟨⟨some ⟨g, 0, none⟩, ss.length, rfl, Nat.le_refl _, hm, fun _ => ⟨g, 0, rfl, fun j u hj => ?_⟩⟩, fun b off n c hv => ?_⟩
  · rw [flat_strs, List.getElem?_map, Option.map_eq_some_iff] at hj
    obtain ⟨x, hx, rfl⟩ := hj
    rw [Nat.zero_add]
    exact h j x hx
  · injection hv with hv _ _
    injection hv with hv
    injection hv with hb _ _
    omega
/-- texts that lie in neither of two blocks -/
def StrsOff (m q : Nat) (W : World) (v : Value) (ss : List ByteArray) : Prop := StrsAt W v ss ∧ (ss ≠ [] → ∀ b off n c, v = .slice (some ⟨b, off, none⟩) n c → b ≠ m ∧ b ≠ q)
theorem StrsOff.below {m q : Nat} {W W' : World} {v : Value} {ss : List ByteArray} (h : StrsOff m q W v ss) (hb : Below W.heap.size W W') : StrsOff m q W' v ss := ⟨h.1.below hb, h.2⟩
theorem cell_off {W : World} {m b i j : Nat} {x v : Value} (hne : m ≠ b) (h : W.cell? ⟨m, j, none⟩ = some x) : (W.setCell ⟨b, i, none⟩ v).cell? ⟨m, j, none⟩ = some x := by
  unfold World.cell? World.setCell at *
  dsimp only
  rw [Array.getElem?_modify, if_neg (Ne.symm hne)]
  exact h
theorem StrsOff.set {m q b i : Nat} {W : World} {v x : Value} {ss : List ByteArray} (h : StrsOff m q W v ss) (hb : b = m ∨ b = q) : StrsOff m q (W.setCell ⟨b, i, none⟩ x) v ss := by
  obtain ⟨⟨A, c, rfl, hc, hm, hr⟩, ht⟩ := h
  refine ⟨⟨A, c, rfl, hc, hm, fun hn => ?_⟩, ht⟩
  obtain ⟨b', off, rfl, hi⟩ := hr hn
  obtain ⟨n1, n2⟩ := ht hn b' off _ _ rfl
  exact ⟨b', off, rfl, fun j u hj => cell_off (by rcases hb with rfl | rfl <;> assumption) (hi j u hj)⟩
theorem pieces_many (c : UInt8) (s : ByteArray) (hs : s.size ≤ 1000000) : (piecesB c s).length ≤ 1000001 := by
  have hpc := VP.pieces_count c s.data.toList
  have h1 := size_eq_length s
  unfold piecesB
  rw [List.length_map]
  omega
end Go.Proofs.YtpbbhjifgaeklaaGreatDoor
