/- Blocks of cells in the heap: a whole block; what is as it was from a block on; texts in blocks from a block on. · strconv.Atoi of any text. -/
import Derived.Test.YtpbbhjifgaeklaaGreatDoorSTK11
import Derived.Test.YtpbbhjifgaeklaaGreatDoorSTK24
import Derived.Test.YtpbbhjifgaeklaaGreatDoorSTK1
import Derived.Lib.AtoiAllCases
namespace Go.Proofs.YtpbbhjifgaeklaaGreatDoor
open Go Go.RowKit

/-- a whole block of cells -/
def Blk (T : TypeId) (W : World) (b : Nat) (cs : Array Value) : Prop := W.heap[b]? = some (.cells cs T (0, 0))
theorem Blk.keep {T : TypeId} {b : Nat} {cs : Array Value} {W W' : World} (h : Blk T W b cs) (hb : Below W.heap.size W W') : Blk T W' b cs := (hb.block b (Array.getElem?_eq_some_iff.1 h).1).trans h
theorem Blk.lt {T : TypeId} {b : Nat} {cs : Array Value} {W : World} (h : Blk T W b cs) : b < W.heap.size := (Array.getElem?_eq_some_iff.1 h).1
theorem Blk.cell {T : TypeId} {b : Nat} {cs : Array Value} {W : World} (h : Blk T W b cs) {i : Nat} {v : Value} (hv : cs[i]? = some v) : W.cell? ⟨b, i, none⟩ = some v := by
  unfold World.cell?
  rw [show W.heap[b]? = _ from h]
  exact hv
theorem Blk.frozen {T : TypeId} {b : Nat} {cs : Array Value} {W : World} (h : Blk T W b cs) : ∀ i, W.frozen? ⟨b, i, none⟩ = false := fun i => by
  unfold World.frozen?
  rw [show W.heap[b]? = _ from h]
  rfl
theorem Blk.set {T : TypeId} {b : Nat} {cs : Array Value} {W : World} (h : Blk T W b cs) (i : Nat) (v : Value) : Blk T (W.setCell ⟨b, i, none⟩ v) b (cs.setIfInBounds i v) := by
  unfold Blk World.setCell at *
  dsimp only
  rw [Array.getElem?_modify, if_pos rfl, h]
  rfl
theorem Blk.other {T : TypeId} {b c : Nat} {cs : Array Value} {W : World} (h : Blk T W b cs) (hne : c ≠ b) (i : Nat) (v : Value) : Blk T (W.setCell ⟨c, i, none⟩ v) b cs := by
  unfold Blk World.setCell at *
  dsimp only
  rw [Array.getElem?_modify, if_neg hne]
  exact h
theorem blk_new (T : TypeId) (w : World) (cs : Array Value) : Blk T (w.alloc (.cells cs T)) w.heap.size cs := heap_alloc_new w _

/-- from B on all blocks are as they were -/
def UpAs (B : Nat) (W W' : World) : Prop := ∀ j, B ≤ j → j < W.heap.size → W'.heap[j]? = W.heap[j]?
theorem UpAs.of_below {B : Nat} {W W' : World} (hb : Below W.heap.size W W') : UpAs B W W' := fun j _ hj => hb.block j hj
theorem UpAs.refl (B : Nat) (W : World) : UpAs B W W := fun _ _ _ => rfl
theorem UpAs.set {B b i : Nat} {W W' : World} {v : Value} (h : UpAs B W W') (hb : b < B) : UpAs B W (W'.setCell ⟨b, i, none⟩ v) := fun j hj hl => by
  unfold World.setCell
  rw [Array.getElem?_modify, if_neg (by show ¬ b = j; omega)]
  exact h j hj hl
theorem UpAs.cell {B : Nat} {W W' : World} {a : Addr} {v : Value} (h : UpAs B W W') (hB : B ≤ a.block) (hc : W.cell? a = some v) : W'.cell? a = some v := by
  have := h a.block hB (cell_lt hc)
  unfold World.cell? at hc ⊢
  rw [this]; exact hc
/-- texts that lie in blocks from B on -/
def StrsUp (B : Nat) (W : World) (v : Value) (ss : List ByteArray) : Prop := StrsAt W v ss ∧ ∀ b off n c, v = .slice (some ⟨b, off, none⟩) n c → B ≤ b
theorem StrsUp.keep {B : Nat} {W W' : World} {v : Value} {ss : List ByteArray} (h : StrsUp B W v ss) (k : UpAs B W W') : StrsUp B W' v ss := by
  obtain ⟨⟨A, c, rfl, hc, hm, hr⟩, ht⟩ := h
  refine ⟨⟨A, c, rfl, hc, hm, fun hn => ?_⟩, ht⟩
  obtain ⟨b, off, rfl, hi⟩ := hr hn
  exact ⟨b, off, rfl, fun j u hj => k.cell (ht b off _ _ rfl) (hi j u hj)⟩
theorem StrsUp.below {B : Nat} {W W' : World} {v : Value} {ss : List ByteArray} (h : StrsUp B W v ss) (hb : Below W.heap.size W W') : StrsUp B W' v ss := h.keep (UpAs.of_below hb)
theorem StrsUp.low {B B' : Nat} {W : World} {v : Value} {ss : List ByteArray} (h : StrsUp B' W v ss) (hB : B ≤ B') : StrsUp B W v ss := ⟨h.1, fun b off n c hv => Nat.le_trans hB (h.2 b off n c hv)⟩
theorem strsUp_nil (B : Nat) (W : World) (n : Nat) : StrsUp B W (.slice none 0 n) [] := ⟨SlC.nil _ _ _, fun b off n c hv => by cases hv⟩
/-- texts that lie in the cells of a new block -/
theorem strsUp_cells {W : World} {g : Nat} {ss : List ByteArray} (hm : ss.length ≤ 9223372036854775807) (h : ∀ (i : Nat) (x : ByteArray), ss[i]? = some x → W.cell? ⟨g, i, none⟩ = some (.string x)) : StrsUp g W (.slice (some ⟨g, 0, none⟩) ss.length ss.length) ss := by
  refine ⟨⟨some ⟨g, 0, none⟩, ss.length, rfl, Nat.le_refl _, hm, fun _ => ⟨g, 0, rfl, fun j u hj => ?_⟩⟩, fun b off n c hv => ?_⟩
  · rw [flat_strs, List.getElem?_map, Option.map_eq_some_iff] at hj
    obtain ⟨x, hx, rfl⟩ := hj
    rw [Nat.zero_add]
    exact h j x hx
  · injection hv with hv _ _
    injection hv with hv
    injection hv with hb _ _
    omega
/-- texts that lie in neither of two blocks -/
def StrsOff (m q : Nat) (W : World) (v : Value) (ss : List ByteArray) : Prop := StrsAt W v ss ∧ (ss ≠ [] → ∀ b off n c, v = .slice (some ⟨b, off, none⟩) n c → b ≠ m ∧ b ≠ q)
theorem StrsOff.below {m q : Nat} {W W' : World} {v : Value} {ss : List ByteArray} (h : StrsOff m q W v ss) (hb : Below W.heap.size W W') : StrsOff m q W' v ss := ⟨h.1.below hb, h.2⟩
theorem cell_off {W : World} {m b i j : Nat} {x v : Value} (hne : m ≠ b) (h : W.cell? ⟨m, j, none⟩ = some x) : (W.setCell ⟨b, i, none⟩ v).cell? ⟨m, j, none⟩ = some x := by
  unfold World.cell? World.setCell at *
  dsimp only
  rw [Array.getElem?_modify, if_neg (Ne.symm hne)]
  exact h
theorem StrsOff.set {m q b i : Nat} {W : World} {v x : Value} {ss : List ByteArray} (h : StrsOff m q W v ss) (hb : b = m ∨ b = q) : StrsOff m q (W.setCell ⟨b, i, none⟩ x) v ss := by
  obtain ⟨⟨A, c, rfl, hc, hm, hr⟩, ht⟩ := h
  refine ⟨⟨A, c, rfl, hc, hm, fun hn => ?_⟩, ht⟩
  obtain ⟨b', off, rfl, hi⟩ := hr hn
  obtain ⟨n1, n2⟩ := ht hn b' off _ _ rfl
  exact ⟨b', off, rfl, fun j u hj => cell_off (by rcases hb with rfl | rfl <;> assumption) (hi j u hj)⟩
theorem strsOff_of {B m q : Nat} {W : World} {v : Value} {ss : List ByteArray} (h : StrsUp B W v ss) (h1 : m < B) (h2 : q < B ∨ W.heap.size ≤ q) : StrsOff m q W v ss := by
  obtain ⟨⟨A, c, rfl, hc, hm, hr⟩, ht⟩ := h
  refine ⟨⟨A, c, rfl, hc, hm, hr⟩, fun hn b off n c' hv => ?_⟩
  obtain ⟨b', off', rfl, hi⟩ := hr hn
  have hB := ht b' off' _ _ rfl
  injection hv with hv _ _
  injection hv with hv
  injection hv with hv _ _
  subst hv
  refine ⟨by omega, ?_⟩
  rcases h2 with h2 | h2
  · omega
  · cases ss with
    | nil => exact absurd rfl hn
    | cons s r =>
      have hl : b' < W.heap.size := cell_lt (hi 0 (.string s) (by rw [flat_strs]; rfl))
      omega
theorem pieces_many (c : UInt8) (s : ByteArray) (hs : s.size ≤ 1000000) : (piecesB c s).length ≤ 1000001 := by
  have hpc := VP.pieces_count c s.data.toList
  have h1 := size_eq_length s
  unfold piecesB
  rw [List.length_map]
  omega
end Go.Proofs.YtpbbhjifgaeklaaGreatDoor

namespace Go.Proofs.YtpbbhjifgaeklaaGreatDoor
open Go Go.RowKit Go.Shelf

/-- the library's two errors -/
def EnvA (w : World) : Prop := (∃ (t : TypeId) (p : Value), w.cell? ⟨3, 0, none⟩ = some (.iface t p)) ∧ ∃ (t : TypeId) (p : Value), w.cell? ⟨4, 0, none⟩ = some (.iface t p)
theorem EnvA.below {w w' : World} (h : EnvA w) (hb : Below w.heap.size w w') : EnvA w' := by
  obtain ⟨⟨t, p, h1⟩, t2, p2, h2⟩ := h
  exact ⟨⟨t, p, kept hb h1⟩, t2, p2, kept hb h2⟩
def AtoiIs (z : ByteArray) (w : World) (E : Ending) (w' : World) : Prop := Below w.heap.size w w' ∧ ((∃ v : Int, E = .returned (.tuple #[.int .i64 v, .nilIface]) ∧ Lib.atoiAll z.data.toList = .ok v) ∨ (∃ (v : Int) (t : TypeId) (p : Value), E = .returned (.tuple #[.int .i64 v, .iface t p]) ∧ ∀ u, Lib.atoiAll z.data.toList ≠ .ok u))
theorem atoi_calls (z : ByteArray) (w : World) (hA : EnvA w) (hz : z.size ≤ 1000000) : Calls Tryz.prog 63 #[.string z] w (AtoiIs z w) := by
  obtain ⟨⟨t1, p1, h1⟩, t2, p2, h2⟩ := hA
  cases hc : Lib.atoiAll z.data.toList with
  | ok v =>
    refine (Tryz.strconv_Atoi_ok z (by omega) v hc w).mono fun E w' ⟨he, hw⟩ => ⟨?_, .inl ⟨v, he, hc⟩⟩
    rcases hw with rfl | ⟨t, rfl⟩
    · exact Below.refl _ _
    · exact Joins.below_bytesWorld _ _ _ _ (Nat.le_refl _)
  | range => exact (Tryz.strconv_Atoi_range z (by omega) hc _ w h2 (.inr ⟨t2, p2, rfl⟩)).mono fun E w' ⟨N, he, _, _, hb⟩ => ⟨hb, .inr ⟨_, _, _, he, fun u e => (by rw [hc] at e; cases e)⟩⟩
  | _ => exact (Any.strconv_Atoi_syntax Tryz.laysC172 z (by omega) hc _ w h1 (.inr ⟨t1, p1, rfl⟩)).mono fun E w' ⟨N, he, _, _, hb⟩ => ⟨hb, .inr ⟨_, _, _, he, fun u e => (by rw [hc] at e; cases e)⟩⟩
end Go.Proofs.YtpbbhjifgaeklaaGreatDoor
