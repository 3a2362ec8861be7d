/- The disk's calls: Read, Write, Sync, Move, Remove: what they answer, and what becomes of the disk. · The disk's calls: Read, Write, Sync, Move, Remove: what they answer, and what becomes of the disk. · The disk's Write, and List. · record.paths, the reference's paths: which lists of paths may be. · A shelf over a disk: what it has; names, Owners. · What the disk's calls keep of its state: plain. · How packages stand: which statuses may be, how they are written and read: plain lists; no program in sight. · depend.Singles, and the reference's: packages, each by itself. · What is short enough to be held is short enough to be read. · record.flat, record.Right: may a package be. · Which packages may be with their files: plain; two paths that clash. · status.Right: may a status be. · status.Print: what a status is written as. · The shelf's calls: Paths, get, comes, set. · strconv.Atoi of any text. · status.Parse: the status that a text is. · The shelf's calls: Over, Owner, Edit, Settings. -/
import Derived.Test.YtpbbhjifgaeklaaGreatDoorCSK15
import Derived.Test.YtpbbhjifgaeklaaGreatDoorCSK9
import Derived.Test.YtpbbhjifgaeklaaGreatDoorCSK5
import Derived.Deep.QuietTactic
import Derived.BigQuiet
import Derived.Deep.DeepCutAuto
import Derived.Deep.RegionHeld3
import Derived.Deep.Cut
import Derived.Shelf.SlIter.Nil
import Derived.Shelf.SortM.Plain
import Derived.Shelf.SortM.SortNone
import Derived.Ground.GgzProg
import Derived.Ground.SlgmProg
import Derived.Test.YtpbbhjifgaeklaaGreatDoorProg
import Derived.Maps.AppendAt
import Derived.OwnWalk
import Derived.Laws.AppendOwn
import Derived.Shelf.Strings.SplitShaped
import Derived.Test.YtpbbhjifgaeklaaGreatDoorCSK1
import Derived.Lib.AtoiTie
import Derived.Lib.ItoaMem
import Derived.Test.YtpbbhjifgaeklaaGreatDoorCSK6
import Derived.Laws.Cover1
import Derived.Lib.OwnBridge
import Derived.Shelf.Slices.CompactS
import Derived.Shelf.Slices.Clone
import Derived.Test.YtpbbhjifgaeklaaGreatDoorCSK3
import Derived.Lib.AtoiAllCases
import Derived.Test.YtpbbhjifgaeklaaGreatDoorCSK10
import Derived.Lib.SliceRun
namespace Go.Proofs.YtpbbhjifgaeklaaGreatDoor
open Go Go.RowKit Go.Maps

/-- a disk's state is one: its numbers are the machine's, its maps rise, what is safe is there -/
structure DkOk (D : Dk) : Prop where
  l0 : 0 ≤ D.left
  l1 : D.left ≤ 9223372036854775807
  len : D.now.length ≤ 5000
  ris : RisF D.now
  sris : RisF D.safe
  sub : ∀ k, getF D.safe k ≠ none → getF D.now k ≠ none
def Ready (W : World) (d : Nat) (D : Dk) (b0 b1 : Nat) : Prop := Blk 58 W d #[.map (some b0), .map (some b1), .int .i64 D.left, .bool D.cut, .int .i64 D.most, .bool false] ∧ b0 ≠ b1 ∧ MapAt W b0 D.now ∧ MapAt W b1 D.safe
theorem blk_map {T : TypeId} {W : World} {d b : Nat} {cs : Array Value} {M : Fm} (h : Blk T W d cs) (k : MapAt W b M) : d ≠ b := by
  rintro rfl
  obtain ⟨⟨es, clock, hb, _⟩, _⟩ := k
  rw [show W.heap[d]? = _ from h] at hb
  injection hb with hb
  cases hb
theorem Ready.ne {W : World} {d b0 b1 : Nat} {D : Dk} (h : Ready W d D b0 b1) : d ≠ b0 ∧ d ≠ b1 := ⟨blk_map h.1 h.2.2.1, blk_map h.1 h.2.2.2⟩
theorem Ready.foot {W : World} {d b0 b1 i : Nat} {D : Dk} (h : Ready W d D b0 b1) : foot W d i ↔ i = d ∨ i = b0 ∨ i = b1 := by
  unfold Go.Proofs.YtpbbhjifgaeklaaGreatDoor.foot
  rw [h.1.cell (i := 0) rfl, h.1.cell (i := 1) rfl]
  constructor
  · rintro (h | h | h)
    · exact .inl h
    · injection h with h; injection h with h; injection h with h; exact .inr (.inl h.symm)
    · injection h with h; injection h with h; injection h with h; exact .inr (.inr h.symm)
  · rintro (h | h | h)
    · exact .inl h
    · subst h; exact .inr (.inl rfl)
    · subst h; exact .inr (.inr rfl)
theorem Ready.now {W W' : World} {d b0 b1 : Nat} {D : Dk} {M : Fm} (h : Ready W d D b0 b1) (ht : W.mapTurned W' b0) (hm : MapAt W' b0 M) : Ready W' d { D with now := M } b0 b1 ∧ Off d W W' := by
  have hR : Ready W' d { D with now := M } b0 b1 := ⟨(turned_block ht h.ne.1).trans h.1, h.2.1, hm, h.2.2.2.keep (turned_block ht (Ne.symm h.2.1))⟩
  refine ⟨hR, (turned_os ht).1, (turned_os ht).2.1, (turned_os ht).2.2, Nat.le_of_eq (turned_size ht).symm, fun i _ hi => turned_block ht fun e => hi (h.foot.2 (.inr (.inl e))), fun i hi => .inl (h.foot.2 (hR.foot.1 hi))⟩
theorem Ready.safe {W W' : World} {d b0 b1 : Nat} {D : Dk} {M : Fm} (h : Ready W d D b0 b1) (ht : W.mapTurned W' b1) (hm : MapAt W' b1 M) : Ready W' d { D with safe := M } b0 b1 ∧ Off d W W' := by
  have hR : Ready W' d { D with safe := M } b0 b1 := ⟨(turned_block ht h.ne.2).trans h.1, h.2.1, h.2.2.1.keep (turned_block ht h.2.1), hm⟩
  refine ⟨hR, (turned_os ht).1, (turned_os ht).2.1, (turned_os ht).2.2, Nat.le_of_eq (turned_size ht).symm, fun i _ hi => turned_block ht fun e => hi (h.foot.2 (.inr (.inr e))), fun i hi => .inl (h.foot.2 (hR.foot.1 hi))⟩

theorem Ready.left {W : World} {d b0 b1 : Nat} {D : Dk} (h : Ready W d D b0 b1) (x : Int) : Ready (W.setCell ⟨d, 2, none⟩ (.int .i64 x)) d { D with left := x } b0 b1 := by
  have h2 := h.1.set 2 (.int .i64 x)
  simp only [List.setIfInBounds_toArray] at h2
  refine ⟨h2, h.2.1, h.2.2.1.keep ?_, h.2.2.2.keep ?_⟩
  · unfold World.setCell
    rw [Array.getElem?_modify, if_neg h.ne.1]
  · unfold World.setCell
    rw [Array.getElem?_modify, if_neg h.ne.2]
end Go.Proofs.YtpbbhjifgaeklaaGreatDoor

namespace Go.Proofs.YtpbbhjifgaeklaaGreatDoor
open Go Go.RowKit Go.Maps

theorem size_max {s : ByteArray} (h : s.size ≤ 1000000) : s.size ≤ maxLen := by unfold maxLen; omega
/-- the look-up in what there is now -/
theorem DiskAt.look {w : World} {d : Nat} {D : Dk} (h : DiskAt w d D) (f : ByteArray) (hf : f.size ≤ 1000000) : ∃ r : Option Nat, w.cell? ⟨d, 0, none⟩ = some (.map r) ∧ (Instr.lookup 56 (.map r) (.string f) true).run Tryz.prog w = .ok (.tuple #[.string ((getF D.now f).getD ⟨#[]⟩), .bool (getF D.now f).isSome]) w ∧ ((getF D.now f).getD ⟨#[]⟩).size ≤ maxLen := by
  obtain ⟨m0, m1, hb, hm⟩ := h
  rcases hm with ⟨rfl, rfl, e0, _⟩ | ⟨b0, b1, rfl, rfl, _, h0, _⟩
  · refine ⟨none, hb.cell (i := 0) rfl, ?_, ?_⟩
    · have := Maps.look_nil (P := Tryz.prog) (w := w) true str_key Tryz.underlying56 (zero_str w) (keyOf_str1 f (size_max hf))
      rw [e0]
      exact this
    · rw [e0]
      show (0 : Nat) ≤ maxLen
      exact Nat.zero_le _
  · exact ⟨some b0, hb.cell (i := 0) rfl, (h0.look f (size_max hf)).1, (h0.look f (size_max hf)).2⟩

end Go.Proofs.YtpbbhjifgaeklaaGreatDoor

namespace Go.Proofs.YtpbbhjifgaeklaaGreatDoor
open Go Go.RowKit Go.Maps

theorem Ready.keep {W W' : World} {d b0 b1 : Nat} {D : Dk} (h : Ready W d D b0 b1) (hb : Below W.heap.size W W') : Ready W' d D b0 b1 :=
  ⟨h.1.keep hb, h.2.1, h.2.2.1.keep (hb.block _ h.2.2.1.lt), h.2.2.2.keep (hb.block _ h.2.2.2.lt)⟩

end Go.Proofs.YtpbbhjifgaeklaaGreatDoor

namespace Go.Proofs.YtpbbhjifgaeklaaGreatDoor
open Go Go.RowKit

/-- is it one of them -/
def hasB (ss : List ByteArray) (x : ByteArray) : Bool := ss.any fun t => decide (t = x)
theorem mem_take_data (ss : List ByteArray) (k : Nat) (x : ByteArray) : hasB (ss.take k) x = (((ss.map (·.data.toList)).take k).any fun t => decide (t = x.data.toList)) := by
  rw [← List.map_take, List.any_map]
  unfold hasB
  congr 1
  funext t
  show decide _ = decide (t.data.toList = x.data.toList)
  congr 1
  exact propext ⟨fun h => by rw [h], fun h => data_inj h⟩
theorem pathOk_at {ss : List ByteArray} {k : Nat} {s : ByteArray} (h : ss[k]? = some s) : VP.pathOk (ss.map (·.data.toList)) k = (VP.pathP s.data.toList && !hasB (ss.take k) s) := by
  unfold VP.pathOk
  rw [List.getElem?_map, h, mem_take_data]
  rfl
def pathsB (ss : List ByteArray) : Bool := VP.pathsP (ss.map (·.data.toList))
/-- so far all is well -/
def PathsTo (ss : List ByteArray) (k : Nat) : Prop := ∀ i, i < k → VP.pathOk (ss.map (·.data.toList)) i = true
theorem PathsTo.zero (ss : List ByteArray) : PathsTo ss 0 := fun _ h => absurd h (Nat.not_lt_zero _)
theorem PathsTo.succ {ss : List ByteArray} {k : Nat} {s : ByteArray} (h : PathsTo ss k) (hs : ss[k]? = some s) (hb : (VP.pathP s.data.toList && !hasB (ss.take k) s) = true) : PathsTo ss (k + 1) := fun i hi => by
  rcases Nat.lt_or_ge i k with h' | h'
  · exact h i h'
  · obtain rfl : i = k := by omega
    exact (pathOk_at hs).trans hb
theorem PathsTo.done {ss : List ByteArray} (h : PathsTo ss ss.length) : pathsB ss = decide (ss.length ≤ 20) := by
  unfold pathsB VP.pathsP
  rw [VP.allAt_true (by rw [List.length_map]; exact h), List.length_map]
  rfl

end Go.Proofs.YtpbbhjifgaeklaaGreatDoor

namespace Go.Proofs.YtpbbhjifgaeklaaGreatDoor
open Go Go.RowKit Go.Maps

/-- a shelf in block sh, over the disk in block d -/
structure ShAt (W : World) (sh d : Nat) (D : Dk) : Prop where
  c : W.cell? ⟨sh, 0, none⟩ = some (.pointer (some ⟨d, 0, none⟩))
  off : ¬ foot W d sh
  dk : DiskAt W d D
theorem ShAt.keep {W W' : World} {sh d : Nat} {D : Dk} (h : ShAt W sh d D) (hb : Below W.heap.size W W') : ShAt W' sh d D :=
  ⟨kept hb h.c, fun hf => h.off ((foot_kept hb h.dk.lt).1 hf), h.dk.keep hb⟩
theorem ShAt.go {W W' : World} {sh d : Nat} {D D' : Dk} (h : ShAt W sh d D) (ho : Off d W W') (hd : DiskAt W' d D') : ShAt W' sh d D' :=
  ⟨keptO ho h.off h.c, not_foot ho (cell_lt h.c) h.off, hd⟩

end Go.Proofs.YtpbbhjifgaeklaaGreatDoor

namespace Go.Proofs.YtpbbhjifgaeklaaGreatDoor
open Go Go.RowKit

def FitD (X : Nat) (D : Dk) : Prop := ∀ k v, getF D.now k = some v → k.size ≤ 80 ∧ v.size ≤ X
theorem FitD.mono {X Y : Nat} {D : Dk} (h : FitD X D) (hx : X ≤ Y) : FitD Y D := fun k v hv => ⟨(h k v hv).1, Nat.le_trans (h k v hv).2 hx⟩
end Go.Proofs.YtpbbhjifgaeklaaGreatDoor

namespace Go.Proofs.YtpbbhjifgaeklaaGreatDoor
open Go Go.RowKit

/-! statuses -/
structure St where
  n : Int
  e : Int
  u : ByteArray
  r : ByteArray
  h : Bool
  ws : List ByteArray
  ts : List ByteArray

end Go.Proofs.YtpbbhjifgaeklaaGreatDoor

namespace Go.Proofs.YtpbbhjifgaeklaaGreatDoor
open Go.RowKit

/-- a slice of terms whose block is none of a row of such slices -/
def Typed (w : World) (base : Nat) (vx : Value) : Prop := ∀ a n c, vx = .slice (some a) n c → a.block < base ∨ ∃ cur fz, w.heap[a.block]? = some (.cells cur 143 fz)

theorem typed_ne {w : World} {base : Nat} {s : Value} {n : Nat} {vs : List Value} {vx : Value} {a : Addr} {m c : Nat} (ho : w.ownsRow base 65 1 s n vs) (ht : Typed w base vx) (hv : vx = .slice (some a) m c) : some a.block ≠ s.ownBlock := by
  rcases ho.2 with ⟨rfl, _⟩ | ⟨g, cap, cur, rfl, hg, hk, _⟩
  · intro e; cases e
  · intro e
    have e' : a.block = g := by injection e
    rcases ht a m c hv with h | ⟨cur', fz, h⟩
    · omega
    · rw [e', hk] at h
      injection h with h
      injection h with _ h2
      exact absurd h2 (by decide)

theorem terms_grown {w w' : World} {base : Nat} {s : Value} {n : Nat} {vs : List Value} {vx : Value} {x : List Tv} (hg : w.grownBy w' s.ownBlock) (ho : w.ownsRow base 65 1 s n vs) (h : TermsAt w vx x) (ht : Typed w base vx) : TermsAt w' vx x ∧ Typed w' base vx := by
  obtain ⟨A, c, hv, hc, hm, hr⟩ := h
  refine ⟨⟨A, c, hv, hc, hm, fun hn => ?_⟩, fun a m c' hv' => ?_⟩
  · obtain ⟨b, off, rfl, hi⟩ := hr hn
    have hne := typed_ne ho ht hv
    refine ⟨b, off, rfl, fun i t hti => ⟨?_, (hi i t hti).2⟩⟩
    obtain ⟨h0, h1, h2, h3, h4⟩ := (hi i t hti).1
    exact ⟨hg.cell h0 hne, hg.cell h1 hne, hg.cell h2 hne, hg.cell h3 hne, hg.cell h4 hne⟩
  · rcases ht a m c' hv' with h | ⟨cur, fz, h⟩
    · exact .inl h
    · exact .inr ⟨cur, fz, (hg.block a.block (Array.getElem?_eq_some_iff.1 h).1 (typed_ne ho ht hv')).trans h⟩

theorem typed_below {w w' : World} {base : Nat} {vx : Value} (h : Typed w base vx) (hb : Below w.heap.size w w') : Typed w' base vx := fun a m c hv => by
  rcases h a m c hv with h | ⟨cur, fz, h⟩
  · exact .inl h
  · exact .inr ⟨cur, fz, (hb.block a.block (Array.getElem?_eq_some_iff.1 h).1).trans h⟩

/-- lists of terms, each a slice of its own -/
def Rows (w : World) (base : Nat) (L : List (List Tv)) (vs : List Value) : Prop := vs.length = L.length ∧ ∀ (i : Nat) (x : List Tv), L[i]? = some x → ∃ vx : Value, vs[i]? = some vx ∧ TermsAt w vx x ∧ Typed w base vx
theorem Rows.nil {w : World} {base : Nat} : Rows w base [] [] := ⟨rfl, fun _ _ h => by cases h⟩
theorem Rows.grown {w w' : World} {base : Nat} {s : Value} {n : Nat} {us : List Value} {L : List (List Tv)} {vs : List Value} (hg : w.grownBy w' s.ownBlock) (ho : w.ownsRow base 65 1 s n us) (h : Rows w base L vs) : Rows w' base L vs :=
  ⟨h.1, fun i x hx => by
    obtain ⟨vx, h1, h2, h3⟩ := h.2 i x hx
    obtain ⟨h4, h5⟩ := terms_grown hg ho h2 h3
    exact ⟨vx, h1, h4, h5⟩⟩
theorem Rows.below {w w' : World} {base : Nat} {L : List (List Tv)} {vs : List Value} (h : Rows w base L vs) (hb : Below w.heap.size w w') : Rows w' base L vs :=
  ⟨h.1, fun i x hx => by
    obtain ⟨vx, h1, h2, h3⟩ := h.2 i x hx
    exact ⟨vx, h1, h2.below hb, typed_below h3 hb⟩⟩
theorem Rows.snoc {w : World} {base : Nat} {L : List (List Tv)} {vs : List Value} {x : List Tv} {v : Value} (h : Rows w base L vs) (hv : TermsAt w v x) (ht : Typed w base v) : Rows w base (L ++ [x]) (vs ++ [v]) := by
  refine ⟨by rw [List.length_append, List.length_append, h.1]; rfl, fun i y hy => ?_⟩
  rcases Nat.lt_trichotomy i L.length with hi | hi | hi
  · rw [List.getElem?_append_left hi] at hy
    obtain ⟨vx, h1, h2⟩ := h.2 i y hy
    exact ⟨vx, by rw [List.getElem?_append_left (by rw [h.1]; exact hi)]; exact h1, h2⟩
  · subst hi
    rw [List.getElem?_append_right (Nat.le_refl _), Nat.sub_self] at hy
    obtain rfl := Option.some.inj hy
    exact ⟨v, by rw [List.getElem?_append_right (by rw [h.1]; exact Nat.le_refl _), h.1, Nat.sub_self]; rfl, hv, ht⟩
  · rw [List.getElem?_eq_none (by rw [List.length_append, List.length_singleton]; omega)] at hy
    cases hy

end Go.Proofs.YtpbbhjifgaeklaaGreatDoor

namespace Go.Proofs.YtpbbhjifgaeklaaGreatDoor
open Go.RowKit

theorem small_of {L : List (List Tv)} {w : World} {v : Value} (h : AskedAt w v L) (hb : termsB L = true) : ∀ x ∈ L, ∀ t ∈ x, t.small := by
  unfold termsB at hb
  rw [Bool.and_eq_true, List.all_eq_true] at hb
  intro x hx t ht
  have hf := hb.2 x hx
  unfold flatB at hf
  rw [Bool.and_eq_true, List.all_eq_true] at hf
  have h1 := hf.2 t ht
  unfold flatT shortB at h1
  simp at h1
  obtain ⟨i, hi⟩ := List.getElem?_of_mem hx
  obtain ⟨A, c, rfl, _, _, hr⟩ := h
  obtain ⟨b, off, _, hh⟩ := hr (List.ne_nil_of_mem hx)
  obtain ⟨vx, _, A', c', _, _, _, hr'⟩ := hh i x hi
  obtain ⟨b', off', _, hh'⟩ := hr' (List.ne_nil_of_mem ht)
  obtain ⟨j, hj⟩ := List.getElem?_of_mem ht
  exact ⟨by omega, by omega, by omega, (hh' j t hj).2⟩

theorem small_flat {ts : List Tv} {w : World} {v : Value} (h : TermsAt w v ts) (hb : flatB ts = true) : ∀ t ∈ ts, t.small := by
  unfold flatB at hb
  rw [Bool.and_eq_true, List.all_eq_true] at hb
  intro t ht
  have h1 := hb.2 t ht
  unfold flatT shortB at h1
  simp at h1
  obtain ⟨A', c', _, _, _, hr'⟩ := h
  obtain ⟨b', off', _, hh'⟩ := hr' (List.ne_nil_of_mem ht)
  obtain ⟨j, hj⟩ := List.getElem?_of_mem ht
  exact ⟨by omega, by omega, by omega, (hh' j t hj).2⟩
end Go.Proofs.YtpbbhjifgaeklaaGreatDoor

namespace Go.Proofs.YtpbbhjifgaeklaaGreatDoor
open Go Go.RowKit

/-- all that a package says is short enough to be read -/
structure Pv.Fit (p : Pv) : Prop where
  n : p.n.size ≤ 1000000
  u : p.u.size ≤ 1000
  r : p.r.size ≤ 1000
  dep : ∀ x ∈ p.dep, ∀ t ∈ x, t.small
  depN : ∀ x ∈ p.dep, x.length ≤ 1000
  ahead : ∀ x ∈ p.ahead, ∀ t ∈ x, t.small
  aheadN : ∀ x ∈ p.ahead, x.length ≤ 1000
  ag : ∀ t ∈ p.ag, t.small
  agN : p.ag.length ≤ 1000
  br : ∀ t ∈ p.br, t.small
  brN : p.br.length ≤ 1000
  re : ∀ t ∈ p.re, t.small
  reN : p.re.length ≤ 1000
  pr : ∀ t ∈ p.pr, t.small
  prN : p.pr.length ≤ 1000
  se : ∀ s ∈ p.se, s.size ≤ 1000000
  li : ∀ s ∈ p.li, s.size ≤ 1000000

/-- the cells of a package in a box -/
structure PackBox (w : World) (m : Nat) (p : Pv) (v1 v2 v3 v4 v5 v6 v7 v8 v9 : Value) : Prop where
  c0 : w.cell? ⟨m, 0, none⟩ = some (.string p.n)
  c1 : w.cell? ⟨m, 1, none⟩ = some (.int .i64 p.e)
  c2 : w.cell? ⟨m, 2, none⟩ = some (.string p.u)
  c3 : w.cell? ⟨m, 3, none⟩ = some (.string p.r)
  c4 : w.cell? ⟨m, 4, none⟩ = some v1
  c5 : w.cell? ⟨m, 5, none⟩ = some v2
  c6 : w.cell? ⟨m, 6, none⟩ = some v3
  c7 : w.cell? ⟨m, 7, none⟩ = some v4
  c8 : w.cell? ⟨m, 8, none⟩ = some v5
  c9 : w.cell? ⟨m, 9, none⟩ = some v6
  c10 : w.cell? ⟨m, 10, none⟩ = some v7
  c11 : w.cell? ⟨m, 11, none⟩ = some v8
  c12 : w.cell? ⟨m, 12, none⟩ = some v9
theorem PackBox.below {w w' : World} {m : Nat} {p : Pv} {v1 v2 v3 v4 v5 v6 v7 v8 v9 : Value} (h : PackBox w m p v1 v2 v3 v4 v5 v6 v7 v8 v9) (hb : Below w.heap.size w w') : PackBox w' m p v1 v2 v3 v4 v5 v6 v7 v8 v9 :=
  ⟨kept hb h.c0, kept hb h.c1, kept hb h.c2, kept hb h.c3, kept hb h.c4, kept hb h.c5, kept hb h.c6, kept hb h.c7, kept hb h.c8, kept hb h.c9, kept hb h.c10, kept hb h.c11, kept hb h.c12⟩
theorem packBox_new (w : World) (p : Pv) (v1 v2 v3 v4 v5 v6 v7 v8 v9 : Value) (t : TypeId) : PackBox (w.alloc (.cells #[.string p.n, .int .i64 p.e, .string p.u, .string p.r, v1, v2, v3, v4, v5, v6, v7, v8, v9] t)) w.heap.size p v1 v2 v3 v4 v5 v6 v7 v8 v9 :=
  ⟨by go_cell, by go_cell, by go_cell, by go_cell, by go_cell, by go_cell, by go_cell, by go_cell, by go_cell, by go_cell, by go_cell, by go_cell, by go_cell⟩

end Go.Proofs.YtpbbhjifgaeklaaGreatDoor

namespace Go.Proofs.YtpbbhjifgaeklaaGreatDoor
open Go Go.RowKit

/-- g has f's path, or lies beneath it -/
def underB (f g : Fv) : Bool := Lib.hasPrefix g.n.data.toList (f.n ++ ⟨#[47]⟩).data.toList
def clashB (f g : Fv) : Bool := decide (g.n = f.n) || underB f g
def pairOk (f : Fv) (i : Nat) (g : Fv) (k : Nat) : Bool := decide (k = i) || !clashB f g
def fileAt (fs : List Fv) (i : Nat) : Bool :=
  match fs[i]? with
  | none => true
  | some f => VP.pathP f.n.data.toList && VP.allAt fs.length fun k => match fs[k]? with | none => true | some g => pairOk f i g k
def filesOk (fs : List Fv) : Bool := VP.allAt fs.length (fileAt fs)
/-- so far the files do not clash with f -/
def PairsTo (fs : List Fv) (f : Fv) (i n : Nat) : Prop := ∀ k, k < n → ∀ g, fs[k]? = some g → pairOk f i g k = true
theorem PairsTo.zero (fs : List Fv) (f : Fv) (i : Nat) : PairsTo fs f i 0 := fun _ h => absurd h (Nat.not_lt_zero _)
theorem PairsTo.succ {fs : List Fv} {f g : Fv} {i n : Nat} (h : PairsTo fs f i n) (hg : fs[n]? = some g) (hp : pairOk f i g n = true) : PairsTo fs f i (n + 1) := fun k hk g' hg' => by
  rcases Nat.lt_or_ge k n with h1 | h1
  · exact h k h1 g' hg'
  · obtain rfl : k = n := by omega
    rw [hg] at hg'
    rw [← Option.some.inj hg']; exact hp
def FilesTo (fs : List Fv) (n : Nat) : Prop := ∀ i, i < n → fileAt fs i = true
theorem FilesTo.zero (fs : List Fv) : FilesTo fs 0 := fun _ h => absurd h (Nat.not_lt_zero _)
theorem FilesTo.succ {fs : List Fv} {n : Nat} (h : FilesTo fs n) (hp : fileAt fs n = true) : FilesTo fs (n + 1) := fun i hi => by
  rcases Nat.lt_or_ge i n with h1 | h1
  · exact h i h1
  · obtain rfl : i = n := by omega
    exact hp
theorem FilesTo.done {fs : List Fv} (h : FilesTo fs fs.length) : filesOk fs = true := VP.allAt_true h
theorem name_eq (a b : ByteArray) : (a.toList == b.toList) = decide (a = b) := by
  rw [Lib.toList_data, Lib.toList_data, Bool.eq_iff_iff, beq_iff_eq, decide_eq_true_iff]
  exact ⟨fun h => data_inj h, fun h => by rw [h]⟩
end Go.Proofs.YtpbbhjifgaeklaaGreatDoor

namespace Go.Proofs.YtpbbhjifgaeklaaGreatDoor
open Go Go.RowKit

/-- a status in the heap, of bounded size -/
structure StAt (w : World) (v1 v2 : Value) (z : St) : Prop where
  ws : StrsAt w v1 z.ws
  ts : StrsAt w v2 z.ts
structure StFit (z : St) : Prop where
  u : z.u.size ≤ 10000
  r : z.r.size ≤ 10000
  wl : z.ws.length ≤ 10000
  tl : z.ts.length ≤ 10000
  wz : ∀ s ∈ z.ws, s.size ≤ 10000
  tz : ∀ s ∈ z.ts, s.size ≤ 10000
theorem StAt.below {w w' : World} {v1 v2 : Value} {z : St} (h : StAt w v1 v2 z) (hb : Below w.heap.size w w') : StAt w' v1 v2 z := ⟨h.ws.below hb, h.ts.below hb⟩

structure StBox (w : World) (m : Nat) (z : St) (v1 v2 : Value) : Prop where
  c0 : w.cell? ⟨m, 0, none⟩ = some (.int .i64 z.n)
  c1 : w.cell? ⟨m, 1, none⟩ = some (.int .i64 z.e)
  c2 : w.cell? ⟨m, 2, none⟩ = some (.string z.u)
  c3 : w.cell? ⟨m, 3, none⟩ = some (.string z.r)
  c4 : w.cell? ⟨m, 4, none⟩ = some (.bool z.h)
  c5 : w.cell? ⟨m, 5, none⟩ = some v1
  c6 : w.cell? ⟨m, 6, none⟩ = some v2
theorem StBox.below {w w' : World} {m : Nat} {z : St} {v1 v2 : Value} (h : StBox w m z v1 v2) (hb : Below w.heap.size w w') : StBox w' m z v1 v2 :=
  ⟨kept hb h.c0, kept hb h.c1, kept hb h.c2, kept hb h.c3, kept hb h.c4, kept hb h.c5, kept hb h.c6⟩
end Go.Proofs.YtpbbhjifgaeklaaGreatDoor

namespace Go.Proofs.YtpbbhjifgaeklaaGreatDoor
open Go Go.RowKit

structure SmallL (l : List ByteArray) : Prop where
  n : l.length ≤ 4
  s : ∀ s ∈ l, s.size ≤ 60

end Go.Proofs.YtpbbhjifgaeklaaGreatDoor

namespace Go.Proofs.YtpbbhjifgaeklaaGreatDoor
open Go Go.RowKit Go.Maps

/-! get -/
/-- a pointer to a text of its own, or nil -/
def PtrAt (B : Nat) (W : World) (v : Value) (o : Option ByteArray) : Prop := match o with | none => v = .pointer none | some s => ∃ g, v = .pointer (some ⟨g, 0, none⟩) ∧ B ≤ g ∧ W.cell? ⟨g, 0, none⟩ = some (.string s)
theorem PtrAt.below {B : Nat} {W W' : World} {v : Value} {o : Option ByteArray} (h : PtrAt B W v o) (hb : Below W.heap.size W W') : PtrAt B W' v o := by
  cases o with
  | none => exact h
  | some s =>
    obtain ⟨g, hv, hg, hc⟩ := h
    exact ⟨g, hv, hg, kept hb hc⟩
end Go.Proofs.YtpbbhjifgaeklaaGreatDoor

namespace Go.Proofs.YtpbbhjifgaeklaaGreatDoor
open Go Go.RowKit Go.Shelf

/-- the library's two errors -/
def EnvA (w : World) : Prop := (∃ (t : TypeId) (p : Value), w.cell? ⟨3, 0, none⟩ = some (.iface t p)) ∧ ∃ (t : TypeId) (p : Value), w.cell? ⟨4, 0, none⟩ = some (.iface t p)
theorem EnvA.below {w w' : World} (h : EnvA w) (hb : Below w.heap.size w w') : EnvA w' := by
  obtain ⟨⟨t, p, h1⟩, t2, p2, h2⟩ := h
  exact ⟨⟨t, p, kept hb h1⟩, t2, p2, kept hb h2⟩
end Go.Proofs.YtpbbhjifgaeklaaGreatDoor

namespace Go.Proofs.YtpbbhjifgaeklaaGreatDoor
open Go Go.RowKit

def cells7 (z : St) (v1 v2 : Value) : Array Value := #[.int .i64 z.n, .int .i64 z.e, .string z.u, .string z.r, .bool z.h, v1, v2]
def zero7 : Array Value := #[.int .i64 0, .int .i64 0, .string ⟨#[]⟩, .string ⟨#[]⟩, .bool false, .slice none 0 0, .slice none 0 0]
/-- the state behind the struct: the result's box m, the status in box q -/
structure PSt (w : World) (m q : Nat) (z : St) (v1 v2 : Value) (W : World) : Prop where
  r : Blk 26 W m zero7
  x : Blk 26 W q (cells7 z v1 v2)
  a : StrsOff m q W v1 z.ws
  b : StrsOff m q W v2 z.ts
  lt : m < q
  low : w.heap.size ≤ m
  w : Below w.heap.size w W
theorem PSt.go {w W W' : World} {m q : Nat} {z : St} {v1 v2 : Value} (h : PSt w m q z v1 v2 W) (hb : Below W.heap.size W W') : PSt w m q z v1 v2 W' :=
  ⟨h.r.keep hb, h.x.keep hb, h.a.below hb, h.b.below hb, h.lt, h.low, step_below h.w hb⟩
/-- ahead of it: the words' cells, and the result's box -/
def Pre5 (w : World) (m g : Nat) (a b c d e : ByteArray) (W : World) : Prop :=
  W.cell? ⟨g, 0, none⟩ = some (.string a) ∧ W.cell? ⟨g, 1, none⟩ = some (.string b) ∧ W.cell? ⟨g, 2, none⟩ = some (.string c) ∧ W.cell? ⟨g, 3, none⟩ = some (.string d) ∧ W.cell? ⟨g, 4, none⟩ = some (.string e) ∧ Blk 26 W m zero7 ∧ Below w.heap.size w W
theorem Pre5.s {w W : World} {m g : Nat} {a b c d e : ByteArray} (h : Pre5 w m g a b c d e W) : W.cell? ⟨g, 2, none⟩ = some (.string c) ∧ W.cell? ⟨g, 3, none⟩ = some (.string d) ∧ W.cell? ⟨g, 4, none⟩ = some (.string e) := ⟨h.2.2.1, h.2.2.2.1, h.2.2.2.2.1⟩
theorem Pre5.w {w W : World} {m g : Nat} {a b c d e : ByteArray} (h : Pre5 w m g a b c d e W) : Below w.heap.size w W := h.2.2.2.2.2.2
theorem Pre5.r {w W : World} {m g : Nat} {a b c d e : ByteArray} (h : Pre5 w m g a b c d e W) : Blk 26 W m zero7 := h.2.2.2.2.2.1
theorem Pre5.go {w W W' : World} {m g : Nat} {a b c d e : ByteArray} (h : Pre5 w m g a b c d e W) (hb : Below W.heap.size W W') : Pre5 w m g a b c d e W' :=
  ⟨kept hb h.1, kept hb h.2.1, kept hb h.2.2.1, kept hb h.2.2.2.1, kept hb h.2.2.2.2.1, h.2.2.2.2.2.1.keep hb, step_below h.2.2.2.2.2.2 hb⟩

end Go.Proofs.YtpbbhjifgaeklaaGreatDoor

namespace Go.Proofs.YtpbbhjifgaeklaaGreatDoor
open Go Go.RowKit Go.Maps

/-- texts in a row of their own: nil, or a whole block of as many cells -/
def RowOf (B : Nat) (W : World) (v : Value) (L : List ByteArray) : Prop := (L = [] ∧ v = .slice none 0 0) ∨ ∃ g, v = .slice (some ⟨g, 0, none⟩) L.length L.length ∧ B ≤ g ∧ Blk 9 W g (L.map Value.string).toArray
theorem RowOf.below {B : Nat} {W W' : World} {v : Value} {L : List ByteArray} (h : RowOf B W v L) (hb : Below W.heap.size W W') : RowOf B W' v L := by
  rcases h with h | ⟨g, hv, hg, hk⟩
  · exact .inl h
  · exact .inr ⟨g, hv, hg, hk.keep hb⟩
end Go.Proofs.YtpbbhjifgaeklaaGreatDoor
