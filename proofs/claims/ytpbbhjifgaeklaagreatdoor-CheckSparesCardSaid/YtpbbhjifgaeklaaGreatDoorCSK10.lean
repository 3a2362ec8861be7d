/- Blocks of cells in the heap: a whole block; what is as it was from a block on; texts in blocks from a block on. · Packages that are known, in memory; check's small functions. -/
import Derived.Test.YtpbbhjifgaeklaaGreatDoorCSK5
import Derived.Test.YtpbbhjifgaeklaaGreatDoorCSK9
import Derived.Shelf.Strings.SplitShaped
import Derived.Test.YtpbbhjifgaeklaaGreatDoorCSK6
import Derived.Test.YtpbbhjifgaeklaaGreatDoorCSK8
import Derived.Deep.MidRow
import Derived.Laws.Tables
namespace Go.Proofs.YtpbbhjifgaeklaaGreatDoor
open Go Go.RowKit

/-- a whole block of cells -/
def Blk (T : TypeId) (W : World) (b : Nat) (cs : Array Value) : Prop := W.heap[b]? = some (.cells cs T (0, 0))
theorem Blk.keep {T : TypeId} {b : Nat} {cs : Array Value} {W W' : World} (h : Blk T W b cs) (hb : Below W.heap.size W W') : Blk T W' b cs := (hb.block b (Array.getElem?_eq_some_iff.1 h).1).trans h
theorem Blk.lt {T : TypeId} {b : Nat} {cs : Array Value} {W : World} (h : Blk T W b cs) : b < W.heap.size := (Array.getElem?_eq_some_iff.1 h).1
theorem Blk.cell {T : TypeId} {b : Nat} {cs : Array Value} {W : World} (h : Blk T W b cs) {i : Nat} {v : Value} (hv : cs[i]? = some v) : W.cell? ⟨b, i, none⟩ = some v := by
  unfold World.cell?
  rw [show W.heap[b]? = _ from h]
  exact hv
theorem Blk.frozen {T : TypeId} {b : Nat} {cs : Array Value} {W : World} (h : Blk T W b cs) : ∀ i, W.frozen? ⟨b, i, none⟩ = false := fun i => by
  unfold World.frozen?
  rw [show W.heap[b]? = _ from h]
  rfl
theorem Blk.set {T : TypeId} {b : Nat} {cs : Array Value} {W : World} (h : Blk T W b cs) (i : Nat) (v : Value) : Blk T (W.setCell ⟨b, i, none⟩ v) b (cs.setIfInBounds i v) := by
  unfold Blk World.setCell at *
  dsimp only
  rw [Array.getElem?_modify, if_pos rfl, h]
  rfl
theorem Blk.other {T : TypeId} {b c : Nat} {cs : Array Value} {W : World} (h : Blk T W b cs) (hne : c ≠ b) (i : Nat) (v : Value) : Blk T (W.setCell ⟨c, i, none⟩ v) b cs := by
  unfold Blk World.setCell at *
  dsimp only
  rw [Array.getElem?_modify, if_neg hne]
  exact h
theorem blk_new (T : TypeId) (w : World) (cs : Array Value) : Blk T (w.alloc (.cells cs T)) w.heap.size cs := heap_alloc_new w _

/-- from B on all blocks are as they were -/
def UpAs (B : Nat) (W W' : World) : Prop := ∀ j, B ≤ j → j < W.heap.size → W'.heap[j]? = W.heap[j]?
theorem UpAs.of_below {B : Nat} {W W' : World} (hb : Below W.heap.size W W') : UpAs B W W' := fun j _ hj => hb.block j hj
theorem UpAs.refl (B : Nat) (W : World) : UpAs B W W := fun _ _ _ => rfl
theorem UpAs.set {B b i : Nat} {W W' : World} {v : Value} (h : UpAs B W W') (hb : b < B) : UpAs B W (W'.setCell ⟨b, i, none⟩ v) := fun j hj hl => by
  unfold World.setCell
  rw [Array.getElem?_modify, if_neg (by show ¬ b = j; omega)]
  exact h j hj hl
theorem UpAs.cell {B : Nat} {W W' : World} {a : Addr} {v : Value} (h : UpAs B W W') (hB : B ≤ a.block) (hc : W.cell? a = some v) : W'.cell? a = some v := by
  have := h a.block hB (cell_lt hc)
  unfold World.cell? at hc ⊢
  rw [this]; exact hc
/-- texts that lie in blocks from B on -/
def StrsUp (B : Nat) (W : World) (v : Value) (ss : List ByteArray) : Prop := StrsAt W v ss ∧ ∀ b off n c, v = .slice (some ⟨b, off, none⟩) n c → B ≤ b
theorem StrsUp.keep {B : Nat} {W W' : World} {v : Value} {ss : List ByteArray} (h : StrsUp B W v ss) (k : UpAs B W W') : StrsUp B W' v ss := by
  obtain ⟨⟨A, c, rfl, hc, hm, hr⟩, ht⟩ := h
  refine ⟨⟨A, c, rfl, hc, hm, fun hn => ?_⟩, ht⟩
  obtain ⟨b, off, rfl, hi⟩ := hr hn
  exact ⟨b, off, rfl, fun j u hj => k.cell (ht b off _ _ rfl) (hi j u hj)⟩
theorem StrsUp.below {B : Nat} {W W' : World} {v : Value} {ss : List ByteArray} (h : StrsUp B W v ss) (hb : Below W.heap.size W W') : StrsUp B W' v ss := h.keep (UpAs.of_below hb)
theorem StrsUp.low {B B' : Nat} {W : World} {v : Value} {ss : List ByteArray} (h : StrsUp B' W v ss) (hB : B ≤ B') : StrsUp B W v ss := ⟨h.1, fun b off n c hv => Nat.le_trans hB (h.2 b off n c hv)⟩
/-- texts that lie in neither of two blocks -/
def StrsOff (m q : Nat) (W : World) (v : Value) (ss : List ByteArray) : Prop := StrsAt W v ss ∧ (ss ≠ [] → ∀ b off n c, v = .slice (some ⟨b, off, none⟩) n c → b ≠ m ∧ b ≠ q)
theorem StrsOff.below {m q : Nat} {W W' : World} {v : Value} {ss : List ByteArray} (h : StrsOff m q W v ss) (hb : Below W.heap.size W W') : StrsOff m q W' v ss := ⟨h.1.below hb, h.2⟩
theorem cell_off {W : World} {m b i j : Nat} {x v : Value} (hne : m ≠ b) (h : W.cell? ⟨m, j, none⟩ = some x) : (W.setCell ⟨b, i, none⟩ v).cell? ⟨m, j, none⟩ = some x := by
  unfold World.cell? World.setCell at *
  dsimp only
  rw [Array.getElem?_modify, if_neg (Ne.symm hne)]
  exact h
theorem StrsOff.set {m q b i : Nat} {W : World} {v x : Value} {ss : List ByteArray} (h : StrsOff m q W v ss) (hb : b = m ∨ b = q) : StrsOff m q (W.setCell ⟨b, i, none⟩ x) v ss := by
  obtain ⟨⟨A, c, rfl, hc, hm, hr⟩, ht⟩ := h
  refine ⟨⟨A, c, rfl, hc, hm, fun hn => ?_⟩, ht⟩
  obtain ⟨b', off, rfl, hi⟩ := hr hn
  obtain ⟨n1, n2⟩ := ht hn b' off _ _ rfl
  exact ⟨b', off, rfl, fun j u hj => cell_off (by rcases hb with rfl | rfl <;> assumption) (hi j u hj)⟩
end Go.Proofs.YtpbbhjifgaeklaaGreatDoor

namespace Go.Proofs.YtpbbhjifgaeklaaGreatDoor
open Go Go.RowKit

/-- a package that is known: how it stands, what it says -/
structure Kv where
  st : Int
  e : Int
  u : ByteArray
  r : ByteArray
  held : Bool
  p : Pv
/-- its cells -/
def kvC (k : Kv) (vw vt v1 v2 v3 v4 v5 v6 v7 v8 v9 : Value) : Array Value :=
  #[.int .i64 k.st, .int .i64 k.e, .string k.u, .string k.r, .bool k.held, vw, vt, .string k.p.n, .int .i64 k.p.e, .string k.p.u, .string k.p.r, v1, v2, v3, v4, v5, v6, v7, v8, v9]
structure KnownAt (w : World) (b off : Nat) (k : Kv) : Prop where
  cells : ∃ (Aw At A1 A2 A3 A4 A5 A6 A7 A8 A9 : Option Addr) (nw nt cw ct c1 c2 c3 c4 c5 c6 c7 c8 c9 : Nat),
    (∀ (j : Nat) (u : Value), (kvC k (.slice Aw nw cw) (.slice At nt ct) (.slice A1 k.p.dep.length c1) (.slice A2 k.p.ahead.length c2) (.slice A3 k.p.ag.length c3) (.slice A4 k.p.br.length c4) (.slice A5 k.p.re.length c5) (.slice A6 k.p.pr.length c6) (.slice A7 k.p.se.length c7) (.slice A8 k.p.li.length c8) (.slice A9 k.p.fi.length c9))[j]? = some u → w.cell? ⟨b, off + j, none⟩ = some u) ∧
    PackAt w (.agg #[.string k.p.n, .int .i64 k.p.e, .string k.p.u, .string k.p.r, .slice A1 k.p.dep.length c1, .slice A2 k.p.ahead.length c2, .slice A3 k.p.ag.length c3, .slice A4 k.p.br.length c4, .slice A5 k.p.re.length c5, .slice A6 k.p.pr.length c6, .slice A7 k.p.se.length c7, .slice A8 k.p.li.length c8, .slice A9 k.p.fi.length c9]) k.p
theorem KnownAt.below {w w' : World} {b off : Nat} {k : Kv} (h : KnownAt w b off k) (hb : Below w.heap.size w w') : KnownAt w' b off k := by
  obtain ⟨Aw, At, A1, A2, A3, A4, A5, A6, A7, A8, A9, nw, nt, cw, ct, c1, c2, c3, c4, c5, c6, c7, c8, c9, hc, hp⟩ := h.cells
  exact ⟨Aw, At, A1, A2, A3, A4, A5, A6, A7, A8, A9, nw, nt, cw, ct, c1, c2, c3, c4, c5, c6, c7, c8, c9, fun j u hj => kept hb (hc j u hj), hp.below hb⟩
/-- this value is a slice that reads as these -/
def KnownsAt (w : World) (v : Value) (ks : List Kv) : Prop :=
  ∃ A c, v = .slice A ks.length c ∧ ks.length ≤ c ∧ ks.length ≤ 9223372036854775807 ∧ (ks ≠ [] → ∃ b off, A = some ⟨b, off, none⟩ ∧ ∀ (i : Nat) (k : Kv), ks[i]? = some k → KnownAt w b (off + i * 20) k)
theorem KnownsAt.below {w w' : World} {v : Value} {ks : List Kv} (h : KnownsAt w v ks) (hb : Below w.heap.size w w') : KnownsAt w' v ks := by
  obtain ⟨A, c, hv, hc, hm, h⟩ := h
  refine ⟨A, c, hv, hc, hm, fun hn => ?_⟩
  obtain ⟨b, off, hA, hi⟩ := h hn
  exact ⟨b, off, hA, fun i k hk => (hi i k hk).below hb⟩
def Kv.offer (k : Kv) : Ov := ⟨k.p.n, k.p.e, k.p.u, k.p.r, k.p.pr⟩

set_option maxHeartbeats 1000000 in
set_option maxRecDepth 100000 in
theorem offer_calls (n u r : ByteArray) (e : Int) (A1 A2 A3 A4 A5 A6 A7 A8 A9 : Option Addr) (n1 n2 n3 n4 n5 n6 n7 n8 n9 c1 c2 c3 c4 c5 c6 c7 c8 c9 : Nat) (w : World) :
    Calls Tryz.prog 101 #[.agg #[.string n, .int .i64 e, .string u, .string r, .slice A1 n1 c1, .slice A2 n2 c2, .slice A3 n3 c3, .slice A4 n4 c4, .slice A5 n5 c5, .slice A6 n6 c6, .slice A7 n7 c7, .slice A8 n8 c8, .slice A9 n9 c9]] w fun E w' => E = .returned (.agg #[.string n, .int .i64 e, .string u, .string r, .slice A6 n6 c6]) ∧ Below w.heap.size w w' := by
  go_enter Tryz.func101, Tryz.ntmps101
  go_wp2_with fail
  exact bodyPost_ret (v := .agg #[.string n, .int .i64 e, .string u, .string r, .slice A6 n6 c6]) (by simp [results, Tryz.results101, go_sem]) rfl ⟨rfl, (below_alloc _ _).trans ((below_alloc _ _).mono (by simp))⟩
set_option maxRecDepth 100000 in
theorem lineDep_calls (n u r : ByteArray) (e : Int) (A1 A2 A3 A4 A5 A6 A7 A8 A9 : Option Addr) (n1 n2 n3 n4 n5 n6 n7 n8 n9 c1 c2 c3 c4 c5 c6 c7 c8 c9 : Nat) (w : World) :
    Calls Tryz.prog 103 #[.agg #[.string n, .int .i64 e, .string u, .string r, .slice A1 n1 c1, .slice A2 n2 c2, .slice A3 n3 c3, .slice A4 n4 c4, .slice A5 n5 c5, .slice A6 n6 c6, .slice A7 n7 c7, .slice A8 n8 c8, .slice A9 n9 c9]] w fun E w' => E = .returned (.slice A1 n1 c1) ∧ Below w.heap.size w w' := by
  have hb := below_alloc w (.cells #[.string n, .int .i64 e, .string u, .string r, .slice A1 n1 c1, .slice A2 n2 c2, .slice A3 n3 c3, .slice A4 n4 c4, .slice A5 n5 c5, .slice A6 n6 c6, .slice A7 n7 c7, .slice A8 n8 c8, .slice A9 n9 c9] 67)
  have HB := Lib.hid hb
  clear hb
  go_enter Tryz.func103, Tryz.ntmps103
  go_wp2_with fail
  go_ret
  exact ⟨rfl, HB.out⟩
set_option maxRecDepth 100000 in
theorem lineAh_calls (n u r : ByteArray) (e : Int) (A1 A2 A3 A4 A5 A6 A7 A8 A9 : Option Addr) (n1 n2 n3 n4 n5 n6 n7 n8 n9 c1 c2 c3 c4 c5 c6 c7 c8 c9 : Nat) (w : World) :
    Calls Tryz.prog 104 #[.agg #[.string n, .int .i64 e, .string u, .string r, .slice A1 n1 c1, .slice A2 n2 c2, .slice A3 n3 c3, .slice A4 n4 c4, .slice A5 n5 c5, .slice A6 n6 c6, .slice A7 n7 c7, .slice A8 n8 c8, .slice A9 n9 c9]] w fun E w' => E = .returned (.slice A2 n2 c2) ∧ Below w.heap.size w w' := by
  have hb := below_alloc w (.cells #[.string n, .int .i64 e, .string u, .string r, .slice A1 n1 c1, .slice A2 n2 c2, .slice A3 n3 c3, .slice A4 n4 c4, .slice A5 n5 c5, .slice A6 n6 c6, .slice A7 n7 c7, .slice A8 n8 c8, .slice A9 n9 c9] 67)
  have HB := Lib.hid hb
  clear hb
  go_enter Tryz.func104, Tryz.ntmps104
  go_wp2_with fail
  go_ret
  exact ⟨rfl, HB.out⟩

/-- it works -/
def worksB (s : Int) : Bool := s == 7 || (s == 6 || s == 5)
set_option maxRecDepth 100000 in
theorem works_calls (s : Int) (w : World) : Calls Tryz.prog 107 #[.int .i64 s] w fun E w' => E = .returned (.bool (worksB s)) ∧ w = w' := by
  by_cases h7 : s = 7
  · subst h7
    go_enter Tryz.func107, Tryz.ntmps107
    go_wp2_with fail
    go_ret
    exact ⟨rfl, rfl⟩
  · have t7 : (s == 7) = false := by simp [h7]
    by_cases h6 : s = 6
    · subst h6
      go_enter Tryz.func107, Tryz.ntmps107
      go_wp2_with fail
      go_ret
      exact ⟨rfl, rfl⟩
    · have t6 : (s == 6) = false := by simp [h6]
      have F := Lib.hid (show worksB s = (s == 5) from by unfold worksB; rw [t7, t6]; rfl)
      clear h7 h6
      go_enter Tryz.func107, Tryz.ntmps107
      go_wp2_with fail
      go_ret
      exact ⟨by rw [F.out]; rfl, rfl⟩

/-! a whole struct is read, and stored into a new block, in one step -/
section
variable {P : Program}
theorem wpList_store_row {ops : Array Oper} {rest : List Oper} {o : Oper} {a : Act} {w : World} {Q : Exit → Act → World → Prop} (hgd : o.guard = none) (ty : TypeId) (x y : Operand) (ho : o.op = .store ty x y)
    (g : Nat) (cells : Array Value) (hx : a.eval x = .pointer (some ⟨g, 0, none⟩)) (hy : a.eval y = .agg cells)
    (t : TypeId) (old : Array Value) (hg : w.heap[g]? = some (.cells old t (0, 0))) (hi : (P.info? ty).map (·.size) = some cells.size)
    (hold : old.size = cells.size) (h1 : cells.all (·.oneCell') = true)
    (h : wpList P ops Q rest (a.put o.dst undef) (w.setRow g cells)) : wpList P ops Q (o :: rest) a w :=
  wpList_plain hgd fun _ hK => wp_store_row ty x y ho g cells hx hy t old hg hi hold h1 (hK _ _ h)
end
theorem new_row (w : World) (old cells : Array Value) (T : TypeId) : Blk T ((w.alloc (.cells old T)).setRow w.heap.size cells) w.heap.size cells ∧ Below w.heap.size w ((w.alloc (.cells old T)).setRow w.heap.size cells) := by
  have hn := heap_alloc_new w (.cells old T)
  refine ⟨setRow_heap _ _ _ _ _ _ hn, rfl, rfl, rfl, by simp, fun k hk => ?_⟩
  rw [setRow_other _ _ _ _ (by omega)]
  exact (below_alloc w _).block k hk
end Go.Proofs.YtpbbhjifgaeklaaGreatDoor
