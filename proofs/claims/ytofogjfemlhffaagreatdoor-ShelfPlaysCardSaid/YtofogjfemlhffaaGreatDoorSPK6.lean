/- stanza.Small, the reference's Small: a name in small letters. · strings.Builder: written on, and read. · stanza.text: fields, written: the walk. · stanza.Right's closure: two names alike in small letters; is one of some fields called so. · What a field says, line by line; how long what is written is: plain. · Blocks of cells in the heap: a whole block; what is as it was from a block on; texts in blocks from a block on. · A disk in memory: what there is now, what is safe; what a call on it leaves as it was. -/
import Derived.Test.YtofogjfemlhffaaGreatDoorSPK2
import Derived.Test.YtofogjfemlhffaaGreatDoorSPK5
import Derived.Lib.ConvBytes
import Derived.Laws.IdiomStrings
import Derived.OwnWalk
import Derived.Test.YtofogjfemlhffaaGreatDoorSPK1
import Derived.Shelf.Strings.BuilderF
import Derived.Test.YtofogjfemlhffaaGreatDoorSPK4
import Derived.Deep.DeepCutAuto
import Derived.Deep.RegionHeld3
namespace Go.Proofs.YtofogjfemlhffaaGreatDoor
open Go Go.RowKit

/-- a row of n bytes of the call's own -/
structure ByteRow (w0 w : World) (b : Nat) (n : Nat) (f : Nat → UInt8) : Prop where
  cells : ∀ j, j < n → w.cell? ⟨b, j, none⟩ = some (.int .u8 ((f j).toNat : Int))
  free : ∀ j, j < n → w.frozen? ⟨b, j, none⟩ = false
  below : Below w0.heap.size w0 w
  high : w0.heap.size ≤ b

theorem ByteRow.store {w0 w : World} {b n k : Nat} {f g : Nat → UInt8} (h : ByteRow w0 w b n f) (hk : k < n) (hg : ∀ j, j ≠ k → g j = f j) {z : Int} (hz : z = ((g k).toNat : Int)) : ByteRow w0 (w.setCell ⟨b, k, none⟩ (.int .u8 z)) b n g where
  cells := fun j hj => by
    by_cases e : j = k
    · subst e
      rw [World.cell?_setCell_same (v := .int .u8 z) (h := h.cells j hj), hz]
    · have hne : (⟨b, k, none⟩ : Addr) ≠ ⟨b, j, none⟩ := fun e' => e (by injection e' with _ h2 _; exact h2.symm)
      rw [World.cell?_setCell_other (h := hne), h.cells j hj, hg j e]
  free := fun j hj => by rw [World.frozen?_setCell]; exact h.free j hj
  below := h.below.setCell h.high _
  high := h.high
theorem ByteRow.same {w0 w : World} {b n : Nat} {f g : Nat → UInt8} (h : ByteRow w0 w b n f) (hg : ∀ j, j < n → g j = f j) : ByteRow w0 w b n g := ⟨fun j hj => by rw [hg j hj]; exact h.cells j hj, h.free, h.below, h.high⟩

end Go.Proofs.YtofogjfemlhffaaGreatDoor

namespace Go.Proofs.YtofogjfemlhffaaGreatDoor
open Go Go.RowKit

/-- the builder at b (of the call's own, from B on) holds these bytes -/
def BldAt (B b : Nat) (l : List UInt8) (w : World) : Prop := Lib.IsBuilderF 127 5 B b (Lib.byteCells l) w
theorem BldAt.alloc {B b : Nat} {l : List UInt8} {w : World} (h : BldAt B b l w) (o : Obj) : BldAt B b l (w.alloc o) := Lib.IsBuilderF.alloc h o
theorem BldAt.drewN {B b : Nat} {l : List UInt8} {w : World} (h : BldAt B b l w) (n : Nat) : BldAt B b l (w.drewN n) := h
end Go.Proofs.YtofogjfemlhffaaGreatDoor

namespace Go.Proofs.YtofogjfemlhffaaGreatDoor
open Go Go.RowKit

/-- cut at the first line feed -/
structure Cut10 (s A R : ByteArray) (m : Bool) (todo : List (List UInt8)) : Prop where
  pcs : VP.pieces 10 s.data.toList = A.data.toList :: todo
  more : m = true → VP.pieces 10 R.data.toList = todo
  none : m = false → todo = []
  small : A.size ≤ s.size
  less : m = true → R.size < s.size
/-- what is written so far, and what is to come -/
structure WroteAt (w w' : World) (T l todo : List UInt8) : Prop where
  eq : l ++ todo = T
  bld : BldAt w.heap.size w.heap.size l w'
  below : Below w.heap.size w w'
theorem WroteAt.len {w w' : World} {T l todo : List UInt8} (h : WroteAt w w' T l todo) : l.length + todo.length = T.length := by rw [← h.eq, List.length_append]
end Go.Proofs.YtofogjfemlhffaaGreatDoor

namespace Go.Proofs.YtofogjfemlhffaaGreatDoor
open Go Go.RowKit

/-- alike in small letters -/
def sameN (a b : ByteArray) : Bool := decide (VP.smallP a.data.toList = VP.smallP b.data.toList)
end Go.Proofs.YtofogjfemlhffaaGreatDoor

namespace Go.Proofs.YtofogjfemlhffaaGreatDoor.VP
theorem pieces_count (c : UInt8) (l : List UInt8) : ((pieces c l).flatMap id).length + (pieces c l).length = l.length + 1 := by
  induction l with
  | nil => rfl
  | cons x l ih =>
    rw [pieces]
    by_cases hx : x = c
    · rw [if_pos hx, List.flatMap_cons, List.length_append, List.length_cons, List.length_cons]
      simp only [id, List.length_nil]
      omega
    · rw [if_neg hx]
      cases hp : pieces c l with
      | nil => exact absurd hp (pieces_ne c l)
      | cons p ps =>
        rw [hp] at ih
        simp only [List.flatMap_cons, List.length_append, List.length_cons, id] at ih ⊢
        omega
end Go.Proofs.YtofogjfemlhffaaGreatDoor.VP
namespace Go.Proofs.YtofogjfemlhffaaGreatDoor
open Go Go.RowKit

def lineOk (ls : List ByteArray) (j : Nat) : Bool :=
  match ls[j]? with
  | none => true
  | some s => VP.flineP s.data.toList && (decide (j = 0) || !decide (s.size = 0))
/-- the fields so far are well -/
def FieldsTo (fs : List Fv) (k : Nat) : Prop := ∀ i, i < k → VP.fieldOk (fs.map Fv.fd) i = true
theorem any_named (fs : List Fv) (k : Nat) (n : ByteArray) : (((fs.map Fv.fd).take k).any fun g => decide (VP.smallP g.n = VP.smallP n.data.toList)) = (fs.take k).any (fun g => sameN g.n n) := by
  rw [← List.map_take, List.any_map]
  rfl
theorem fieldOk_at {fs : List Fv} {k : Nat} {f : Fv} (h : fs[k]? = some f) : VP.fieldOk (fs.map Fv.fd) k = (VP.fnameP f.n.data.toList && !((fs.take k).any fun g => sameN g.n f.n) && VP.valueP f.v.data.toList) := by
  unfold VP.fieldOk
  rw [List.getElem?_map, h, ← any_named]
  rfl
def stanzaB (fs : List Fv) : Bool := VP.stanzaP (fs.map Fv.fd)
theorem FieldsTo.succ {fs : List Fv} {k : Nat} {f : Fv} (h : FieldsTo fs k) (hf : fs[k]? = some f) (hb : (VP.fnameP f.n.data.toList && !((fs.take k).any fun g => sameN g.n f.n) && VP.valueP f.v.data.toList) = true) : FieldsTo fs (k + 1) := fun i hi => by
  rcases Nat.lt_or_ge i k with h' | h'
  · exact h i h'
  · obtain rfl : i = k := by omega
    exact (fieldOk_at hf).trans hb
theorem FieldsTo.done {fs : List Fv} (h : FieldsTo fs fs.length) (h1 : 1 ≤ fs.length) (h40 : fs.length ≤ 40) : stanzaB fs = decide ((VP.textL (fs.map Fv.fd)).length ≤ 4000) := by
  unfold stanzaB VP.stanzaP
  rw [VP.allAt_true (by rw [List.length_map]; exact h), List.length_map, decide_eq_true h1, decide_eq_true h40]
  rfl
end Go.Proofs.YtofogjfemlhffaaGreatDoor

namespace Go.Proofs.YtofogjfemlhffaaGreatDoor
open Go Go.RowKit

/-- a whole block of cells -/
def Blk (T : TypeId) (W : World) (b : Nat) (cs : Array Value) : Prop := W.heap[b]? = some (.cells cs T (0, 0))
theorem Blk.keep {T : TypeId} {b : Nat} {cs : Array Value} {W W' : World} (h : Blk T W b cs) (hb : Below W.heap.size W W') : Blk T W' b cs := (hb.block b (Array.getElem?_eq_some_iff.1 h).1).trans h
theorem Blk.lt {T : TypeId} {b : Nat} {cs : Array Value} {W : World} (h : Blk T W b cs) : b < W.heap.size := (Array.getElem?_eq_some_iff.1 h).1
theorem Blk.cell {T : TypeId} {b : Nat} {cs : Array Value} {W : World} (h : Blk T W b cs) {i : Nat} {v : Value} (hv : cs[i]? = some v) : W.cell? ⟨b, i, none⟩ = some v := by
  unfold World.cell?
  rw [show W.heap[b]? = _ from h]
  exact hv
theorem Blk.frozen {T : TypeId} {b : Nat} {cs : Array Value} {W : World} (h : Blk T W b cs) : ∀ i, W.frozen? ⟨b, i, none⟩ = false := fun i => by
  unfold World.frozen?
  rw [show W.heap[b]? = _ from h]
  rfl
theorem Blk.set {T : TypeId} {b : Nat} {cs : Array Value} {W : World} (h : Blk T W b cs) (i : Nat) (v : Value) : Blk T (W.setCell ⟨b, i, none⟩ v) b (cs.setIfInBounds i v) := by
  unfold Blk World.setCell at *
  dsimp only
  rw [Array.getElem?_modify, if_pos rfl, h]
  rfl
theorem blk_new (T : TypeId) (w : World) (cs : Array Value) : Blk T (w.alloc (.cells cs T)) w.heap.size cs := heap_alloc_new w _

/-- from B on all blocks are as they were -/
def UpAs (B : Nat) (W W' : World) : Prop := ∀ j, B ≤ j → j < W.heap.size → W'.heap[j]? = W.heap[j]?
theorem UpAs.of_below {B : Nat} {W W' : World} (hb : Below W.heap.size W W') : UpAs B W W' := fun j _ hj => hb.block j hj
theorem UpAs.refl (B : Nat) (W : World) : UpAs B W W := fun _ _ _ => rfl
theorem UpAs.set {B b i : Nat} {W W' : World} {v : Value} (h : UpAs B W W') (hb : b < B) : UpAs B W (W'.setCell ⟨b, i, none⟩ v) := fun j hj hl => by
  unfold World.setCell
  rw [Array.getElem?_modify, if_neg (by show ¬ b = j; omega)]
  exact h j hj hl
theorem UpAs.cell {B : Nat} {W W' : World} {a : Addr} {v : Value} (h : UpAs B W W') (hB : B ≤ a.block) (hc : W.cell? a = some v) : W'.cell? a = some v := by
  have := h a.block hB (cell_lt hc)
  unfold World.cell? at hc ⊢
  rw [this]; exact hc
/-- texts that lie in blocks from B on -/
def StrsUp (B : Nat) (W : World) (v : Value) (ss : List ByteArray) : Prop := StrsAt W v ss ∧ ∀ b off n c, v = .slice (some ⟨b, off, none⟩) n c → B ≤ b
theorem StrsUp.keep {B : Nat} {W W' : World} {v : Value} {ss : List ByteArray} (h : StrsUp B W v ss) (k : UpAs B W W') : StrsUp B W' v ss := by
  obtain ⟨⟨A, c, rfl, hc, hm, hr⟩, ht⟩ := h
  refine ⟨⟨A, c, rfl, hc, hm, fun hn => ?_⟩, ht⟩
  obtain ⟨b, off, rfl, hi⟩ := hr hn
  exact ⟨b, off, rfl, fun j u hj => k.cell (ht b off _ _ rfl) (hi j u hj)⟩
theorem StrsUp.below {B : Nat} {W W' : World} {v : Value} {ss : List ByteArray} (h : StrsUp B W v ss) (hb : Below W.heap.size W W') : StrsUp B W' v ss := h.keep (UpAs.of_below hb)
theorem StrsUp.low {B B' : Nat} {W : World} {v : Value} {ss : List ByteArray} (h : StrsUp B' W v ss) (hB : B ≤ B') : StrsUp B W v ss := ⟨h.1, fun b off n c hv => Nat.le_trans hB (h.2 b off n c hv)⟩
theorem strsUp_nil (B : Nat) (W : World) (n : Nat) : StrsUp B W (.slice none 0 n) [] := ⟨SlC.nil _ _ _, fun b off n c hv => by cases hv⟩
/-- texts that lie in the cells of a new block -/
theorem strsUp_cells {W : World} {g : Nat} {ss : List ByteArray} (hm : ss.length ≤ 9223372036854775807) (h : ∀ (i : Nat) (x : ByteArray), ss[i]? = some x → W.cell? ⟨g, i, none⟩ = some (.string x)) : StrsUp g W (.slice (some ⟨g, 0, none⟩) ss.length ss.length) ss := by
  refine ⟨⟨some ⟨g, 0, none⟩, ss.length, rfl, Nat.le_refl _, hm, fun _ => ⟨g, 0, rfl, fun j u hj => ?_⟩⟩, fun b off n c hv => ?_⟩
  · rw [flat_strs, List.getElem?_map, Option.map_eq_some_iff] at hj
    obtain ⟨x, hx, rfl⟩ := hj
    rw [Nat.zero_add]
    exact h j x hx
  · injection hv with hv _ _
    injection hv with hv
    injection hv with hb _ _
    omega
/-- texts that lie in neither of two blocks -/
def StrsOff (m q : Nat) (W : World) (v : Value) (ss : List ByteArray) : Prop := StrsAt W v ss ∧ (ss ≠ [] → ∀ b off n c, v = .slice (some ⟨b, off, none⟩) n c → b ≠ m ∧ b ≠ q)
theorem StrsOff.below {m q : Nat} {W W' : World} {v : Value} {ss : List ByteArray} (h : StrsOff m q W v ss) (hb : Below W.heap.size W W') : StrsOff m q W' v ss := ⟨h.1.below hb, h.2⟩
theorem cell_off {W : World} {m b i j : Nat} {x v : Value} (hne : m ≠ b) (h : W.cell? ⟨m, j, none⟩ = some x) : (W.setCell ⟨b, i, none⟩ v).cell? ⟨m, j, none⟩ = some x := by
  unfold World.cell? World.setCell at *
  dsimp only
  rw [Array.getElem?_modify, if_neg (Ne.symm hne)]
  exact h
theorem StrsOff.set {m q b i : Nat} {W : World} {v x : Value} {ss : List ByteArray} (h : StrsOff m q W v ss) (hb : b = m ∨ b = q) : StrsOff m q (W.setCell ⟨b, i, none⟩ x) v ss := by
  obtain ⟨⟨A, c, rfl, hc, hm, hr⟩, ht⟩ := h
  refine ⟨⟨A, c, rfl, hc, hm, fun hn => ?_⟩, ht⟩
  obtain ⟨b', off, rfl, hi⟩ := hr hn
  obtain ⟨n1, n2⟩ := ht hn b' off _ _ rfl
  exact ⟨b', off, rfl, fun j u hj => cell_off (by rcases hb with rfl | rfl <;> assumption) (hi j u hj)⟩
theorem pieces_many (c : UInt8) (s : ByteArray) (hs : s.size ≤ 1000000) : (piecesB c s).length ≤ 1000001 := by
  have hpc := VP.pieces_count c s.data.toList
  have h1 := size_eq_length s
  unfold piecesB
  rw [List.length_map]
  omega
end Go.Proofs.YtofogjfemlhffaaGreatDoor

namespace Go.Proofs.YtofogjfemlhffaaGreatDoor
open Go Go.RowKit Go.Maps Go.ChangeMaps Go.WideShapes Go.WideMaps

/-- a map of texts in memory -/
def MapAt (W : World) (b : Nat) (M : Fm) : Prop := W.ownsMap Tryz.prog 9 (plainElem Tryz.prog 9) b M.length (datF M) ∧ RisF M

theorem str_key : Keyed Tryz.prog 9 := string_keyed Tryz.underlying9
theorem zero_str (w : World) : (zeroValue 9).run Tryz.prog w = .ok (.string ⟨#[]⟩) w := by kernel_rfl
theorem keyOf_str1 (s : ByteArray) (h : s.size ≤ maxLen) : keyOf Tryz.prog 9 (.string s) = some (.string s.data.toList) := by
  have := keyOf_string_mk (P := Tryz.prog) (k := 9) (s := s) Tryz.underlying9 h
  exact this
theorem owns_tight {W : World} {b n : Nat} {M : Fm} (h : W.ownsMap Tryz.prog 9 (plainElem Tryz.prog 9) b n (datF M)) : W.ownsMap Tryz.prog 9 (plainElem Tryz.prog 9) b M.length (datF M) := by
  obtain ⟨es, clock, hb, F, hn, hD⟩ := h
  refine ⟨es, clock, hb, F, ?_, hD⟩
  have := congrArg Maps.size hD
  rw [datF_size] at this
  have e : Maps.size (DataW.map ((es.toList.map (WideElems.rg Tryz.prog 9 (plainElem Tryz.prog 9))).foldr DataW.insert []) : DataW Unit) = es.size := by simp [Maps.size, length_sorted]
  rw [e] at this
  omega

theorem MapAt.lt {W : World} {b : Nat} {M : Fm} (h : MapAt W b M) : b < W.heap.size := h.1.lt
theorem MapAt.keep {W W' : World} {b : Nat} {M : Fm} (h : MapAt W b M) (hb : W'.heap[b]? = W.heap[b]?) : MapAt W' b M := by
  obtain ⟨⟨es, clock, hm, r⟩, hr⟩ := h
  exact ⟨⟨es, clock, hb.trans hm, r⟩, hr⟩
theorem mapAt_new (w : World) : MapAt (w.alloc (.map #[] 0)) w.heap.size [] := ⟨World.ownsMap_made w _ _ _, ris_nil⟩

theorem lit_str {a b : List UInt8} (h : (DataW.lit (.string a) : DataW Unit) = .lit (.string b)) : a = b := by
  cases h; rfl
/-- 'v, ok := m[k]' -/
theorem MapAt.look {W : World} {b : Nat} {M : Fm} (h : MapAt W b M) (k : ByteArray) (hk : k.size ≤ maxLen) : (Instr.lookup 29 (.map (some b)) (.string k) true).run Tryz.prog W = .ok (.tuple #[.string ((getF M k).getD ⟨#[]⟩), .bool (getF M k).isSome]) W ∧ ((getF M k).getD ⟨#[]⟩).size ≤ maxLen := by
  obtain ⟨v, ps, hrun, hR⟩ := h.1.look_ok str_key Tryz.underlying29 (zero_str W) (plainElem_string Tryz.underlying9 (s := ⟨#[]⟩) (by unfold maxLen; decide)) (keyOf_str1 k hk)
  rw [datF_has] at hrun
  rw [datF_at] at hR
  obtain ⟨s, rfl, hz, hs⟩ := plainElem_string_inv Tryz.underlying9 hR
  have e : s = (getF M k).getD ⟨#[]⟩ := by
    cases hg : getF M k with
    | none =>
      rw [hg] at hz
      exact data_inj (lit_str (congrArg Prod.fst hz)).symm
    | some v =>
      rw [hg] at hz
      exact data_inj (lit_str (congrArg Prod.fst hz)).symm
  rw [← e]
  exact ⟨hrun, hs⟩
theorem MapAt.sized {W : World} {b : Nat} {M : Fm} (h : MapAt W b M) (ty : TypeId) : (Builtin.len_ #[29] ty #[.map (some b)]).run Tryz.prog W = .ok (.int .i64 (M.length : Int)) W := by
  have := h.1.len Tryz.underlying29 ty
  rwa [datF_size] at this
/-- w' is w but for the map in block b (and so is what is kept) -/
theorem turned_block {w w' : World} {b i : Nat} (h : w.mapTurned w' b) (hi : i ≠ b) : w'.heap[i]? = w.heap[i]? := by
  have := h.grown
  rcases Nat.lt_or_ge i w.heap.size with hl | hl
  · exact this.block i hl (fun e => hi (by injection e))
  · obtain ⟨es, clock, es', clock', hb, rfl⟩ := h
    exact heap_setBlock_other hb _ hi
theorem turned_size {w w' : World} {b : Nat} (h : w.mapTurned w' b) : w'.heap.size = w.heap.size := by
  obtain ⟨es, clock, es', clock', hb, rfl⟩ := h
  simp [setBlock]
theorem turned_os {w w' : World} {b : Nat} (h : w.mapTurned w' b) : w'.os = w.os ∧ w'.tape = w.tape ∧ w'.output = w.output := ⟨h.grown.os, h.grown.tape, h.grown.output⟩
/-- 'm[k] = v' -/
theorem MapAt.store {W : World} {b : Nat} {M : Fm} (h : MapAt W b M) (k v : ByteArray) (hk : k.size ≤ maxLen) (hv : v.size ≤ maxLen) (hn : M.length < maxLen) : ∃ W', (Instr.mapUpdate 29 (.map (some b)) (.string k) (.string v)).run Tryz.prog W = .ok () W' ∧ MapAt W' b (putF M k v) ∧ W.mapTurned W' b := by
  obtain ⟨W', hrun, ho, ht⟩ := h.1.store str_key Tryz.underlying29 hn (keyOf_str1 k hk) (plainElem_string Tryz.underlying9 hv)
  rw [datF_put] at ho
  exact ⟨W', hrun, ⟨owns_tight ho, ris_put h.2 k v⟩, ht⟩
/-- 'delete(m, k)' -/
theorem MapAt.drop {W : World} {b : Nat} {M : Fm} (h : MapAt W b M) (k : ByteArray) (hk : k.size ≤ maxLen) (ty : TypeId) : ∃ W', (Builtin.delete_ #[29, 9] ty #[.map (some b), .string k]).run Tryz.prog W = .ok (.tuple #[]) W' ∧ MapAt W' b (delF M k) ∧ W.mapTurned W' b := by
  obtain ⟨W', hrun, ho, ht⟩ := h.1.drop str_key Tryz.underlying29 (keyOf_str1 k hk) ty
  rw [datF_del] at ho
  exact ⟨W', hrun, ⟨owns_tight ho, ris_del h.2 k⟩, ht⟩

/-! a disk -/
structure Dk where
  now : Fm
  safe : Fm
  left : Int
  cut : Bool
  most : Int
/-- the disk's own block, and the blocks of its two maps -/
def foot (W : World) (d i : Nat) : Prop := i = d ∨ W.cell? ⟨d, 0, none⟩ = some (.map (some i)) ∨ W.cell? ⟨d, 1, none⟩ = some (.map (some i))
def MapsAt (W : World) (m0 m1 : Value) (D : Dk) : Prop := (m0 = .map none ∧ m1 = .map none ∧ D.now = [] ∧ D.safe = []) ∨ ∃ b0 b1, m0 = .map (some b0) ∧ m1 = .map (some b1) ∧ b0 ≠ b1 ∧ MapAt W b0 D.now ∧ MapAt W b1 D.safe
def DiskAt (W : World) (d : Nat) (D : Dk) : Prop := ∃ m0 m1, Blk 31 W d #[m0, m1, .int .i64 D.left, .bool D.cut, .int .i64 D.most, .bool false] ∧ MapsAt W m0 m1 D

/-- what a call on a disk leaves: all but the disk's own blocks is as it was, and what it takes besides is new -/
structure Off (d : Nat) (w w' : World) : Prop where
  os : w'.os = w.os
  tape : w'.tape = w.tape
  output : w'.output = w.output
  size : w.heap.size ≤ w'.heap.size
  block : ∀ i, i < w.heap.size → ¬ foot w d i → w'.heap[i]? = w.heap[i]?
  foot : ∀ i, foot w' d i → foot w d i ∨ w.heap.size ≤ i
theorem Off.refl (d : Nat) (w : World) : Off d w w := ⟨rfl, rfl, rfl, Nat.le_refl _, fun _ _ _ => rfl, fun _ h => .inl h⟩
theorem Off.trans {d : Nat} {a b c : World} (h : Off d a b) (k : Off d b c) : Off d a c := by
  refine ⟨k.os.trans h.os, k.tape.trans h.tape, k.output.trans h.output, Nat.le_trans h.size k.size, fun i hi hf => ?_, fun i hi => ?_⟩
  · refine (k.block i (Nat.lt_of_lt_of_le hi h.size) fun hb => ?_).trans (h.block i hi hf)
    rcases h.foot i hb with h' | h'
    · exact hf h'
    · omega
  · rcases k.foot i hi with h' | h'
    · exact h.foot i h'
    · exact .inr (Nat.le_trans h.size h')
theorem foot_kept {w w' : World} {d i : Nat} (hb : Below w.heap.size w w') (hd : d < w.heap.size) : foot w' d i ↔ foot w d i := by
  have e : ∀ j, w'.cell? ⟨d, j, none⟩ = w.cell? ⟨d, j, none⟩ := fun j => by
    unfold World.cell?
    rw [show w'.heap[(⟨d, j, none⟩ : Addr).block]? = w.heap[(⟨d, j, none⟩ : Addr).block]? from hb.block d hd]
  unfold foot
  rw [e, e]
theorem Off.of_below {d : Nat} {w w' : World} (hb : Below w.heap.size w w') (hd : d < w.heap.size) : Off d w w' :=
  ⟨hb.os, hb.tape, hb.output, hb.size, fun i hi _ => hb.block i hi, fun _ hi => .inl ((foot_kept hb hd).1 hi)⟩
/-- behind what makes new memory alone -/
theorem Off.step {d : Nat} {a b c : World} (h : Off d a b) (hb : Below b.heap.size b c) (hd : d < b.heap.size) : Off d a c := h.trans (Off.of_below hb hd)
theorem not_foot {d i : Nat} {w w' : World} (h : Off d w w') (hi : i < w.heap.size) (hf : ¬ foot w d i) : ¬ foot w' d i := fun h' => by
  rcases h.foot i h' with h' | h'
  · exact hf h'
  · omega
theorem keptO {d : Nat} {w w' : World} {p : Addr} {v : Value} (h : Off d w w') (hf : ¬ foot w d p.block) (hc : w.cell? p = some v) : w'.cell? p = some v := by
  have := h.block p.block (cell_lt hc) hf
  unfold World.cell? at hc ⊢
  rw [this]; exact hc
/-- all of a disk's blocks lie from n on -/
def Low (n : Nat) (w : World) (d : Nat) : Prop := ∀ i, foot w d i → n ≤ i
theorem Low.go {n d : Nat} {w w' : World} (h : Low n w d) (k : Off d w w') (hn : n ≤ w.heap.size) : Low n w' d := fun i hi => by
  rcases k.foot i hi with h' | h'
  · exact h i h'
  · omega
theorem Off.below {n d : Nat} {w w' : World} (h : Off d w w') (hl : Low n w d) (hn : n ≤ w.heap.size) : Below n w w' :=
  ⟨h.os, h.tape, h.output, h.size, fun i hi => h.block i (by omega) fun hf => by have := hl i hf; omega⟩

theorem DiskAt.lt {W : World} {d : Nat} {D : Dk} (h : DiskAt W d D) : d < W.heap.size := by
  obtain ⟨m0, m1, hb, _⟩ := h
  exact hb.lt
theorem MapsAt.keep {W W' : World} {m0 m1 : Value} {D : Dk} (h : MapsAt W m0 m1 D) (hb : ∀ i, m0 = .map (some i) ∨ m1 = .map (some i) → W'.heap[i]? = W.heap[i]?) : MapsAt W' m0 m1 D := by
  rcases h with h | ⟨b0, b1, rfl, rfl, hne, h0, h1⟩
  · exact .inl h
  · exact .inr ⟨b0, b1, rfl, rfl, hne, h0.keep (hb b0 (.inl rfl)), h1.keep (hb b1 (.inr rfl))⟩
theorem MapsAt.lt {W : World} {m0 m1 : Value} {D : Dk} (h : MapsAt W m0 m1 D) : ∀ i, m0 = .map (some i) ∨ m1 = .map (some i) → i < W.heap.size := by
  rcases h with ⟨rfl, rfl, _⟩ | ⟨b0, b1, rfl, rfl, _, h0, h1⟩
  · rintro i (h | h) <;> cases h
  · rintro i (h | h)
    · injection h with h; injection h with h; subst h; exact h0.lt
    · injection h with h; injection h with h; subst h; exact h1.lt
theorem DiskAt.keep {W W' : World} {d : Nat} {D : Dk} (h : DiskAt W d D) (hb : Below W.heap.size W W') : DiskAt W' d D := by
  obtain ⟨m0, m1, hk, hm⟩ := h
  exact ⟨m0, m1, hk.keep hb, hm.keep fun i hi => hb.block i (hm.lt i hi)⟩
theorem DiskAt.foot_lt {W : World} {d : Nat} {D : Dk} (h : DiskAt W d D) {i : Nat} (hf : foot W d i) : i < W.heap.size := by
  obtain ⟨m0, m1, hk, hm⟩ := h
  rcases hf with rfl | hf | hf
  · exact hk.lt
  · have := (hk.cell (i := 0) rfl).symm.trans hf
    injection this with this
    exact hm.lt i (.inl this)
  · have := (hk.cell (i := 1) rfl).symm.trans hf
    injection this with this
    exact hm.lt i (.inr this)
/-- a disk that lies in new memory is off what lay before -/
theorem new_not_foot {W W' : World} {d i : Nat} {D : Dk} (h : DiskAt W d D) (hb : Below W.heap.size W W') (hi : W.heap.size ≤ i) : ¬ foot W' d i := fun hf => by
  have := h.foot_lt ((foot_kept hb h.lt).1 hf)
  omega
end Go.Proofs.YtofogjfemlhffaaGreatDoor
