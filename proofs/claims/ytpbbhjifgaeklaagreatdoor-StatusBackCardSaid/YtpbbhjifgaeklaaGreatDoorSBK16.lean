/- Paths: what the program asks of one, and what the reference asks, are the same: plain Lean. · The reference's Path: which paths may be. · stanza.name, the reference's Name: how a field may be called. · record.paths, the reference's paths: which lists of paths may be. · A package, as it lies in memory. · Errors taken apart: api.Tell, plain.Place, and the statements' bare, of no error and of an Errno. · depend.Print: how what is asked for is written. · depend.Singles, and the reference's: packages, each by itself. · record.flat, record.Right: may a package be. -/
import Derived.Test.YtpbbhjifgaeklaaGreatDoorSBK10
import Derived.Lib.IndexMore
import Derived.Test.YtpbbhjifgaeklaaGreatDoorSBK8
import Derived.Deep.Cut
import Derived.Test.YtpbbhjifgaeklaaGreatDoorSBK11
import Derived.Test.YtpbbhjifgaeklaaGreatDoorSBK15
import Derived.Test.YtpbbhjifgaeklaaGreatDoorSBK2
import Derived.LaidEql
import Derived.Stop.Asserts
import Derived.RowKitTokens
import Derived.Deep.RegionHeld3
import Derived.Deep.DeepCutAuto
import Derived.Maps.AppendAt
import Derived.OwnWalk
import Derived.Laws.AppendOwn
namespace Go.Proofs.YtpbbhjifgaeklaaGreatDoor.VP

theorem contains_cons (c : UInt8) (l sub : List UInt8) : Lib.contains (c :: l) sub = (sub.isPrefixOf (c :: l) || Lib.contains l sub) := by
  unfold Lib.contains
  rw [show Lib.index (c :: l) sub = if sub.isPrefixOf (c :: l) then 0 else if Lib.index l sub == -1 then -1 else Lib.index l sub + 1 from rfl]
  have hge := Lib.index_ge l sub
  cases h : sub.isPrefixOf (c :: l) with
  | true => simp
  | false =>
    simp only [Bool.false_or]
    by_cases h1 : Lib.index l sub = -1
    · simp [h1]
    · have : (Lib.index l sub == -1) = false := by rw [beq_eq_false_iff_ne]; exact h1
      rw [this]
      simp only [Bool.false_eq_true, if_false]
      rw [decide_eq_true (by omega : (0 : Int) ≤ Lib.index l sub + 1), decide_eq_true (by omega : (0 : Int) ≤ Lib.index l sub)]

end Go.Proofs.YtpbbhjifgaeklaaGreatDoor.VP

namespace Go.Proofs.YtpbbhjifgaeklaaGreatDoor
open Go.RowKit

theorem u8_beq (c : UInt8) (n : Nat) (h : n < 256) : (c == UInt8.ofNat n) = decide (c.toNat = n) := by
  rw [Bool.eq_iff_iff, beq_iff_eq, decide_eq_true_iff]
  constructor
  · rintro rfl; simp; omega
  · intro e; rw [← e]; simp

end Go.Proofs.YtpbbhjifgaeklaaGreatDoor

namespace Go.Proofs.YtpbbhjifgaeklaaGreatDoor
open Go.RowKit

theorem beqI {n k : Nat} (m : Int) (hm : m = (k : Int)) (h : n = k) : ((n : Int) == m) = true := by rw [beq_iff_eq]; omega
theorem beqI_ne {n k : Nat} (m : Int) (hm : m = (k : Int)) (h : n ≠ k) : ((n : Int) == m) = false := by rw [beq_eq_false_iff_ne]; omega
end Go.Proofs.YtpbbhjifgaeklaaGreatDoor

namespace Go.Proofs.YtpbbhjifgaeklaaGreatDoor
open Go Go.RowKit

/-- is it one of them -/
def hasB (ss : List ByteArray) (x : ByteArray) : Bool := ss.any fun t => decide (t = x)
theorem mem_take_data (ss : List ByteArray) (k : Nat) (x : ByteArray) : hasB (ss.take k) x = (((ss.map (·.data.toList)).take k).any fun t => decide (t = x.data.toList)) := by
  rw [← List.map_take, List.any_map]
  unfold hasB
  congr 1
  funext t
  show decide _ = decide (t.data.toList = x.data.toList)
  congr 1
  exact propext ⟨fun h => by rw [h], fun h => data_inj h⟩
theorem pathOk_at {ss : List ByteArray} {k : Nat} {s : ByteArray} (h : ss[k]? = some s) : VP.pathOk (ss.map (·.data.toList)) k = (VP.pathP s.data.toList && !hasB (ss.take k) s) := by
  unfold VP.pathOk
  rw [List.getElem?_map, h, mem_take_data]
  rfl
/-- so far all is well -/
def PathsTo (ss : List ByteArray) (k : Nat) : Prop := ∀ i, i < k → VP.pathOk (ss.map (·.data.toList)) i = true
theorem PathsTo.zero (ss : List ByteArray) : PathsTo ss 0 := fun _ h => absurd h (Nat.not_lt_zero _)
theorem PathsTo.succ {ss : List ByteArray} {k : Nat} {s : ByteArray} (h : PathsTo ss k) (hs : ss[k]? = some s) (hb : (VP.pathP s.data.toList && !hasB (ss.take k) s) = true) : PathsTo ss (k + 1) := fun i hi => by
  rcases Nat.lt_or_ge i k with h' | h'
  · exact h i h'
  · obtain rfl : i = k := by omega
    exact (pathOk_at hs).trans hb
end Go.Proofs.YtpbbhjifgaeklaaGreatDoor

namespace Go.Proofs.YtpbbhjifgaeklaaGreatDoor
open Go Go.RowKit

structure Pv where
  n : ByteArray
  e : Int
  u : ByteArray
  r : ByteArray
  dep : List (List Tv)
  ahead : List (List Tv)
  ag : List Tv
  br : List Tv
  re : List Tv
  pr : List Tv
  se : List ByteArray
  li : List ByteArray
  fi : List Fv

/-- this value is a package that reads as p -/
def PackAt (w : World) (v : Value) (p : Pv) : Prop := ∃ v1 v2 v3 v4 v5 v6 v7 v8 v9 : Value,
  v = .agg #[.string p.n, .int .i64 p.e, .string p.u, .string p.r, v1, v2, v3, v4, v5, v6, v7, v8, v9] ∧
  AskedAt w v1 p.dep ∧ AskedAt w v2 p.ahead ∧ TermsAt w v3 p.ag ∧ TermsAt w v4 p.br ∧ TermsAt w v5 p.re ∧ TermsAt w v6 p.pr ∧ StrsAt w v7 p.se ∧ StrsAt w v8 p.li ∧ FieldsAt w v9 p.fi ∧
  -9223372036854775808 ≤ p.e ∧ p.e ≤ 9223372036854775807
theorem PackAt.below {w w' : World} {v : Value} {p : Pv} (h : PackAt w v p) (hb : Below w.heap.size w w') : PackAt w' v p := by
  obtain ⟨v1, v2, v3, v4, v5, v6, v7, v8, v9, hv, h1, h2, h3, h4, h5, h6, h7, h8, h9, hlo, hhi⟩ := h
  exact ⟨v1, v2, v3, v4, v5, v6, v7, v8, v9, hv, h1.below hb, h2.below hb, h3.below hb, h4.below hb, h5.below hb, h6.below hb, h7.below hb, h8.below hb, h9.below hb, hlo, hhi⟩

/-! short enough to be held -/
def textsB (ss : List ByteArray) : Bool := decide (ss.length ≤ 40) && ss.all fun s => decide (s.size ≤ 100)
end Go.Proofs.YtpbbhjifgaeklaaGreatDoor

namespace Go.Proofs.YtpbbhjifgaeklaaGreatDoor
open Go.RowKit

/-- errors.errorType is laid -/
def EnvE (w : World) : Prop := w.cell? ⟨2, 0, none⟩ = some (.iface 304 (.agg #[.pointer (some ⟨11, 31, none⟩)]))
theorem EnvE.below {w w' : World} (h : EnvE w) (hb : Below w.heap.size w w') : EnvE w' := kept hb h

/-- an error of the program's: none, or an Errno -/
def errV (n : Int) : Value := if n = 0 then .nilIface else .iface 43 (.int .i64 n)

end Go.Proofs.YtpbbhjifgaeklaaGreatDoor

namespace Go.Proofs.YtpbbhjifgaeklaaGreatDoor
open Go.RowKit

/-! what is joined -/
theorem joinP_eq (sep : List UInt8) : ∀ xs : List (List UInt8), Lib.join xs sep = VP.joinP sep xs
  | [] => rfl
  | [x] => by rw [Lib.join_one]; rfl
  | x :: y :: r => by
    have ih := joinP_eq sep (y :: r)
    rw [Lib.join_cons, VP.joinP, ← ih, Lib.join_cons]
    simp [Lib.joinTail]

theorem joinP_len (sep : List UInt8) (B : Nat) : ∀ xs : List (List UInt8), (∀ x ∈ xs, x.length ≤ B) → (VP.joinP sep xs).length ≤ xs.length * (B + sep.length)
  | [], _ => by simp [VP.joinP]
  | [x], h => by
    have := h x (.head _)
    rw [VP.joinP, List.length_singleton, Nat.one_mul]; omega
  | x :: y :: r, h => by
    have ih := joinP_len sep B (y :: r) (fun z hz => h z (.tail _ hz))
    have := h x (.head _)
    rw [VP.joinP, List.length_append, List.length_append]
    rw [List.length_cons (a := x), Nat.add_mul, Nat.one_mul]
    omega

end Go.Proofs.YtpbbhjifgaeklaaGreatDoor

namespace Go.Proofs.YtpbbhjifgaeklaaGreatDoor
open Go.RowKit

/-- a slice of terms whose block is none of a row of such slices -/
def Typed (w : World) (base : Nat) (vx : Value) : Prop := ∀ a n c, vx = .slice (some a) n c → a.block < base ∨ ∃ cur fz, w.heap[a.block]? = some (.cells cur 143 fz)

theorem typed_below {w w' : World} {base : Nat} {vx : Value} (h : Typed w base vx) (hb : Below w.heap.size w w') : Typed w' base vx := fun a m c hv => by
  rcases h a m c hv with h | ⟨cur, fz, h⟩
  · exact .inl h
  · exact .inr ⟨cur, fz, (hb.block a.block (Array.getElem?_eq_some_iff.1 h).1).trans h⟩

/-- lists of terms, each a slice of its own -/
def Rows (w : World) (base : Nat) (L : List (List Tv)) (vs : List Value) : Prop := vs.length = L.length ∧ ∀ (i : Nat) (x : List Tv), L[i]? = some x → ∃ vx : Value, vs[i]? = some vx ∧ TermsAt w vx x ∧ Typed w base vx
theorem Rows.nil {w : World} {base : Nat} : Rows w base [] [] := ⟨rfl, fun _ _ h => by cases h⟩
theorem Rows.below {w w' : World} {base : Nat} {L : List (List Tv)} {vs : List Value} (h : Rows w base L vs) (hb : Below w.heap.size w w') : Rows w' base L vs :=
  ⟨h.1, fun i x hx => by
    obtain ⟨vx, h1, h2, h3⟩ := h.2 i x hx
    exact ⟨vx, h1, h2.below hb, typed_below h3 hb⟩⟩
end Go.Proofs.YtpbbhjifgaeklaaGreatDoor

namespace Go.Proofs.YtpbbhjifgaeklaaGreatDoor
open Go Go.RowKit

/-- all that a package says is short enough to be read -/
structure Pv.Fit (p : Pv) : Prop where
  n : p.n.size ≤ 1000000
  u : p.u.size ≤ 1000
  r : p.r.size ≤ 1000
  dep : ∀ x ∈ p.dep, ∀ t ∈ x, t.small
  depN : ∀ x ∈ p.dep, x.length ≤ 1000
  ahead : ∀ x ∈ p.ahead, ∀ t ∈ x, t.small
  aheadN : ∀ x ∈ p.ahead, x.length ≤ 1000
  ag : ∀ t ∈ p.ag, t.small
  agN : p.ag.length ≤ 1000
  br : ∀ t ∈ p.br, t.small
  brN : p.br.length ≤ 1000
  re : ∀ t ∈ p.re, t.small
  reN : p.re.length ≤ 1000
  pr : ∀ t ∈ p.pr, t.small
  prN : p.pr.length ≤ 1000
  se : ∀ s ∈ p.se, s.size ≤ 1000000
  li : ∀ s ∈ p.li, s.size ≤ 1000000

/-- the cells of a package in a box -/
structure PackBox (w : World) (m : Nat) (p : Pv) (v1 v2 v3 v4 v5 v6 v7 v8 v9 : Value) : Prop where
  c0 : w.cell? ⟨m, 0, none⟩ = some (.string p.n)
  c1 : w.cell? ⟨m, 1, none⟩ = some (.int .i64 p.e)
  c2 : w.cell? ⟨m, 2, none⟩ = some (.string p.u)
  c3 : w.cell? ⟨m, 3, none⟩ = some (.string p.r)
  c4 : w.cell? ⟨m, 4, none⟩ = some v1
  c5 : w.cell? ⟨m, 5, none⟩ = some v2
  c6 : w.cell? ⟨m, 6, none⟩ = some v3
  c7 : w.cell? ⟨m, 7, none⟩ = some v4
  c8 : w.cell? ⟨m, 8, none⟩ = some v5
  c9 : w.cell? ⟨m, 9, none⟩ = some v6
  c10 : w.cell? ⟨m, 10, none⟩ = some v7
  c11 : w.cell? ⟨m, 11, none⟩ = some v8
  c12 : w.cell? ⟨m, 12, none⟩ = some v9
theorem PackBox.below {w w' : World} {m : Nat} {p : Pv} {v1 v2 v3 v4 v5 v6 v7 v8 v9 : Value} (h : PackBox w m p v1 v2 v3 v4 v5 v6 v7 v8 v9) (hb : Below w.heap.size w w') : PackBox w' m p v1 v2 v3 v4 v5 v6 v7 v8 v9 :=
  ⟨kept hb h.c0, kept hb h.c1, kept hb h.c2, kept hb h.c3, kept hb h.c4, kept hb h.c5, kept hb h.c6, kept hb h.c7, kept hb h.c8, kept hb h.c9, kept hb h.c10, kept hb h.c11, kept hb h.c12⟩
end Go.Proofs.YtpbbhjifgaeklaaGreatDoor
