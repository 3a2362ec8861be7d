/- Packages that are asked for, in memory: a slice of terms, a slice of such slices. · Rows of the call's own: what keeps them; a row of slices of terms. · append(dst, src...) on a row of the call's own, from a slice that may be nil. · Slices in memory whose elements have so many cells each: texts, fields, files. · record.paths, the reference's paths: which lists of paths may be. · depend.Name, and the reference's PackName: may a package be called so. -/
import Derived.Test.YtodbbfgkclkpgaaGreatDoorABK6
import Derived.Test.YtodbbfgkclkpgaaGreatDoorABK2
import Derived.Maps.AppendAt
import Derived.OwnWalk
import Derived.Laws.AppendOwn
import Derived.Deep.AppendSrc
namespace Go.Proofs.YtodbbfgkclkpgaaGreatDoor
open Go.RowKit

/-- a term, as it lies in memory -/
structure Tv where
  n : ByteArray
  op : Int
  e : Int
  u : ByteArray
  r : ByteArray

def Tv.val (t : Tv) : Value := .agg #[.string t.n, .int .i64 t.op, .int .i64 t.e, .string t.u, .string t.r]
def Tv.tm (t : Tv) : VP.Tm := ⟨t.n.data.toList, t.op, t.e, t.u.data.toList, t.r.data.toList⟩
/-- its numbers are int's -/
def Tv.ok (t : Tv) : Prop := -9223372036854775808 ≤ t.e ∧ t.e ≤ 9223372036854775807 ∧ -9223372036854775808 ≤ t.op ∧ t.op ≤ 9223372036854775807

/-- at this address lies this term -/
structure TermAt (w : World) (b off : Nat) (t : Tv) : Prop where
  c0 : w.cell? ⟨b, off, none⟩ = some (.string t.n)
  c1 : w.cell? ⟨b, off + 1, none⟩ = some (.int .i64 t.op)
  c2 : w.cell? ⟨b, off + 2, none⟩ = some (.int .i64 t.e)
  c3 : w.cell? ⟨b, off + 3, none⟩ = some (.string t.u)
  c4 : w.cell? ⟨b, off + 4, none⟩ = some (.string t.r)

theorem TermAt.below {w w' : World} {b off : Nat} {t : Tv} (h : TermAt w b off t) (hb : Below w.heap.size w w') : TermAt w' b off t := ⟨kept hb h.c0, kept hb h.c1, kept hb h.c2, kept hb h.c3, kept hb h.c4⟩

/-- this value is a slice that reads as these terms -/
def TermsAt (w : World) (v : Value) (ts : List Tv) : Prop :=
  ∃ A c, v = .slice A ts.length c ∧ ts.length ≤ c ∧ ts.length ≤ 9223372036854775807 ∧ (ts ≠ [] → ∃ b off, A = some ⟨b, off, none⟩ ∧ ∀ i t, ts[i]? = some t → TermAt w b (off + i * 5) t ∧ t.ok)

theorem TermsAt.below {w w' : World} {v : Value} {ts : List Tv} (h : TermsAt w v ts) (hb : Below w.heap.size w w') : TermsAt w' v ts := by
  obtain ⟨A, c, hv, hc, hm, h⟩ := h
  refine ⟨A, c, hv, hc, hm, fun hn => ?_⟩
  obtain ⟨b, off, hA, hi⟩ := h hn
  exact ⟨b, off, hA, fun i t ht => ⟨(hi i t ht).1.below hb, (hi i t ht).2⟩⟩

/-- this value is a slice that reads as these lists of terms -/
def AskedAt (w : World) (v : Value) (L : List (List Tv)) : Prop :=
  ∃ A c, v = .slice A L.length c ∧ L.length ≤ c ∧ L.length ≤ 9223372036854775807 ∧ (L ≠ [] → ∃ b off, A = some ⟨b, off, none⟩ ∧ ∀ i x, L[i]? = some x → ∃ vx, w.cell? ⟨b, off + i, none⟩ = some vx ∧ TermsAt w vx x)

theorem AskedAt.below {w w' : World} {v : Value} {L : List (List Tv)} (h : AskedAt w v L) (hb : Below w.heap.size w w') : AskedAt w' v L := by
  obtain ⟨A, c, hv, hc, hm, h⟩ := h
  refine ⟨A, c, hv, hc, hm, fun hn => ?_⟩
  obtain ⟨b, off, hA, hi⟩ := h hn
  refine ⟨b, off, hA, fun i x hx => ?_⟩
  obtain ⟨vx, h1, h2⟩ := hi i x hx
  exact ⟨vx, kept hb h1, h2.below hb⟩

def flatT (t : Tv) : Bool := decide (t.n.size ≤ 60) && shortB t.u t.r
def flatB (ts : List Tv) : Bool := decide (ts.length ≤ 40) && ts.all flatT
def termsB (L : List (List Tv)) : Bool := decide (L.length ≤ 40) && L.all flatB

theorem all_take_succ {α : Type} {p : α → Bool} {l : List α} {k : Nat} {x : α} (h : (l.take k).all p = true) (hx : l[k]? = some x) (hp : p x = true) : (l.take (k + 1)).all p = true := by
  rw [List.take_add_one, hx, List.all_append, h]
  simp [hp]
theorem all_stop {α : Type} {p : α → Bool} {l : List α} {k : Nat} {x : α} (hx : l[k]? = some x) (hp : p x = false) : l.all p = false := by
  rw [List.all_eq_false]
  exact ⟨x, List.mem_of_getElem? hx, by simp [hp]⟩
theorem all_done {α : Type} {p : α → Bool} {l : List α} (h : (l.take l.length).all p = true) : l.all p = true := by rwa [List.take_length] at h
end Go.Proofs.YtodbbfgkclkpgaaGreatDoor

namespace Go.Proofs.YtodbbfgkclkpgaaGreatDoor
open Go.RowKit

theorem own_below {w w' : World} {base : Nat} {e : TypeId} {size : Nat} {v : Value} {n : Nat} {xs : List Value} (h : w.ownsRow base e size v n xs) (hb : Below w.heap.size w w') : w'.ownsRow base e size v n xs := by
  obtain ⟨h1, h2 | ⟨g, cap, cur, hv, hg, hk, h3⟩⟩ := h
  · exact ⟨h1, .inl h2⟩
  · have hlt : g < w.heap.size := (Array.getElem?_eq_some_iff.1 hk).1
    exact ⟨h1, .inr ⟨g, cap, cur, hv, hg, (hb.block g hlt).trans hk, h3⟩⟩

theorem info_terms : (Tryz.prog.info? 25).map (fun i => (i.zero, i.size, i.bytes)) = some (some (.slice none 0 0), 1, 24) := by kernel_rfl

/-- a slice of slices of the call's own, each of which reads as terms -/
theorem asked_of_own {w : World} {base : Nat} {v : Value} {n : Nat} {vs : List Value} {L : List (List Tv)} (h : w.ownsRow base 25 1 v n vs) (hn : n = L.length) (hb : n ≤ 9223372036854775807)
    (hi : ∀ (i : Nat) (x : List Tv), L[i]? = some x → ∃ vx, vs[i]? = some vx ∧ TermsAt w vx x) : AskedAt w v L := by
  subst hn
  rcases h.2 with ⟨rfl, h0⟩ | ⟨g, cap, cur, rfl, hg, hk, hc, hm, hs, ht⟩
  · refine ⟨none, 0, by rw [h0], by omega, hb, fun hne => ?_⟩
    exact absurd (List.eq_nil_of_length_eq_zero h0) hne
  · refine ⟨some ⟨g, 0, none⟩, cap, rfl, hc, hb, fun _ => ⟨g, 0, rfl, fun i x hx => ?_⟩⟩
    obtain ⟨vx, h1, h2⟩ := hi i x hx
    have := h.cells (g := g) rfl i vx h1
    rw [Go.WideShapes.add_plain] at this
    exact ⟨vx, this, h2⟩
end Go.Proofs.YtodbbfgkclkpgaaGreatDoor

namespace Go.Proofs.YtodbbfgkclkpgaaGreatDoor
open Go Go.RowKit

/-- this value is a slice of m elements that yields these cells -/
def SrcIs (w : World) (y : Value) (m : Nat) (news : List Value) : Prop := ∃ A c, y = .slice A m c ∧ (m ≠ 0 → ∃ b off, A = some ⟨b, off, none⟩ ∧ ∀ j u, news[j]? = some u → w.cell? ⟨b, off + j, none⟩ = some u)
theorem SrcIs.below {w w' : World} {y : Value} {m : Nat} {news : List Value} (h : SrcIs w y m news) (hb : Below w.heap.size w w') : SrcIs w' y m news := by
  obtain ⟨A, c, hy, h1⟩ := h
  refine ⟨A, c, hy, fun hm => ?_⟩
  obtain ⟨b, off, hA, hc⟩ := h1 hm
  exact ⟨b, off, hA, fun j u hj => kept hb (hc j u hj)⟩

section
variable {P : Program} (w : World)
theorem setCells_nil (b off : Nat) : w.setCells b off [] = w := rfl

end

end Go.Proofs.YtodbbfgkclkpgaaGreatDoor

namespace Go.Proofs.YtodbbfgkclkpgaaGreatDoor
open Go Go.RowKit

section
variable {α : Type} {cs : α → List Value} {size : Nat}
/-- this value is a slice; the cells of its elements are these -/
def SlC (cs : α → List Value) (w : World) (v : Value) (xs : List α) : Prop :=
  ∃ A c, v = .slice A xs.length c ∧ xs.length ≤ c ∧ xs.length ≤ 9223372036854775807 ∧ (xs ≠ [] → ∃ b off, A = some ⟨b, off, none⟩ ∧ ∀ (j : Nat) (u : Value), (xs.flatMap cs)[j]? = some u → w.cell? ⟨b, off + j, none⟩ = some u)

theorem SlC.below {w w' : World} {v : Value} {xs : List α} (h : SlC cs w v xs) (hb : Below w.heap.size w w') : SlC cs w' v xs := by
  obtain ⟨A, c, hv, hc, hm, h⟩ := h
  refine ⟨A, c, hv, hc, hm, fun hn => ?_⟩
  obtain ⟨b, off, hA, hi⟩ := h hn
  exact ⟨b, off, hA, fun j u hj => kept hb (hi j u hj)⟩

theorem SlC.nil (w : World) (A : Option Addr) (c : Nat) : SlC cs w (.slice A 0 c) [] := ⟨A, c, rfl, Nat.zero_le _, by simp, fun h => absurd rfl h⟩

theorem flat_at (hs : ∀ x, (cs x).length = size) {xs : List α} {i : Nat} {x : α} (h : xs[i]? = some x) (r : Nat) (hr : r < size) : (xs.flatMap cs)[i * size + r]? = (cs x)[r]? := by
  induction xs generalizing i with
  | nil => cases h
  | cons a xs ih =>
    rw [List.flatMap_cons]
    cases i with
    | zero =>
      obtain rfl := Option.some.inj h
      rw [List.getElem?_append_left (by rw [hs]; omega)]
      congr 1
      omega
    | succ i =>
      rw [List.getElem?_append_right (by rw [hs, Nat.succ_mul]; omega), hs, show (i + 1) * size + r - size = i * size + r by rw [Nat.succ_mul]; omega]
      exact ih h
theorem flat_length (hs : ∀ x, (cs x).length = size) (xs : List α) : (xs.flatMap cs).length = xs.length * size := by
  induction xs with
  | nil => simp
  | cons a xs ih => rw [List.flatMap_cons, List.length_append, ih, hs, List.length_cons, Nat.succ_mul]; omega

theorem SlC.src {w : World} {v : Value} {xs : List α} (h : SlC cs w v xs) : SrcIs w v xs.length (xs.flatMap cs) := by
  obtain ⟨A, c, hv, _, _, h⟩ := h
  exact ⟨A, c, hv, fun hn => h (fun e => hn (by rw [e]; rfl))⟩

theorem slc_of_own {w : World} {base : Nat} {e : TypeId} {v : Value} {n : Nat} {xs : List α} (h : w.ownsRow base e size v n (xs.flatMap cs)) (hn : n = xs.length) (hb : n ≤ 9223372036854775807) : SlC cs w v xs := by
  subst hn
  rcases h.2 with ⟨rfl, h0⟩ | ⟨g, cap, cur, rfl, hg, hk, hc, hm, hs, ht⟩
  · refine ⟨none, 0, by rw [h0], by omega, hb, fun hne => ?_⟩
    exact absurd (List.eq_nil_of_length_eq_zero h0) hne
  · refine ⟨some ⟨g, 0, none⟩, cap, rfl, hc, hb, fun _ => ⟨g, 0, rfl, fun j u hj => ?_⟩⟩
    have := h.cells (g := g) rfl j u hj
    rwa [Go.WideShapes.add_plain] at this

theorem SlC.take {w : World} {A : Option Addr} {n c : Nat} {xs : List α} (h : SlC cs w (.slice A n c) xs) {k : Nat} (hk : k ≤ xs.length) : SlC cs w (.slice A k c) (xs.take k) := by
  obtain ⟨A', c', hv, hc, hm, h⟩ := h
  injection hv with h1 h2 h3
  subst h1
  subst h3
  refine ⟨A, c, by rw [List.length_take, Nat.min_eq_left hk], by rw [List.length_take]; omega, by rw [List.length_take]; omega, fun hn => ?_⟩
  obtain ⟨b, off, hA, hi⟩ := h (fun e => hn (by rw [e]; simp))
  refine ⟨b, off, hA, fun j u hj => hi j u ?_⟩
  have e : xs.flatMap cs = (xs.take k).flatMap cs ++ (xs.drop k).flatMap cs := by rw [← List.flatMap_append, List.take_append_drop]
  rw [e, List.getElem?_append_left (List.getElem?_eq_some_iff.1 hj).1]
  exact hj
end

/-! texts -/
def strC (s : ByteArray) : List Value := [.string s]
def StrsAt (w : World) (v : Value) (ss : List ByteArray) : Prop := SlC strC w v ss
theorem StrsAt.below {w w' : World} {v : Value} {ss : List ByteArray} (h : StrsAt w v ss) (hb : Below w.heap.size w w') : StrsAt w' v ss := SlC.below h hb
theorem flat_strs (ss : List ByteArray) : ss.flatMap strC = ss.map Value.string := by
  induction ss with
  | nil => rfl
  | cons a ss ih => rw [List.flatMap_cons, ih]; rfl
theorem StrsAt.open {w : World} {v : Value} {ss : List ByteArray} (h : StrsAt w v ss) :
    ∃ A c, v = .slice A ss.length c ∧ ss.length ≤ c ∧ ss.length ≤ 9223372036854775807 ∧ (ss ≠ [] → ∃ b off, A = some ⟨b, off, none⟩ ∧ ∀ (i : Nat) (s : ByteArray), ss[i]? = some s → w.cell? ⟨b, off + i, none⟩ = some (.string s)) := by
  obtain ⟨A, c, hv, hc, hm, h⟩ := h
  refine ⟨A, c, hv, hc, hm, fun hn => ?_⟩
  obtain ⟨b, off, hA, hi⟩ := h hn
  refine ⟨b, off, hA, fun i s hs => hi i _ ?_⟩
  rw [flat_strs, List.getElem?_map, hs]; rfl

/-! fields, files: two texts each -/
structure Fv where
  n : ByteArray
  v : ByteArray
def Fv.fd (f : Fv) : VP.Fd := ⟨f.n.data.toList, f.v.data.toList⟩
def fldC (f : Fv) : List Value := [.string f.n, .string f.v]
def FieldsAt (w : World) (v : Value) (fs : List Fv) : Prop := SlC fldC w v fs
theorem FieldsAt.below {w w' : World} {v : Value} {fs : List Fv} (h : FieldsAt w v fs) (hb : Below w.heap.size w w') : FieldsAt w' v fs := SlC.below h hb
theorem FieldsAt.open {w : World} {v : Value} {fs : List Fv} (h : FieldsAt w v fs) :
    ∃ A c, v = .slice A fs.length c ∧ fs.length ≤ c ∧ fs.length ≤ 9223372036854775807 ∧ (fs ≠ [] → ∃ b off, A = some ⟨b, off, none⟩ ∧ ∀ (i : Nat) (f : Fv), fs[i]? = some f → w.cell? ⟨b, off + i * 2, none⟩ = some (.string f.n) ∧ w.cell? ⟨b, off + i * 2 + 1, none⟩ = some (.string f.v)) := by
  obtain ⟨A, c, hv, hc, hm, h⟩ := h
  refine ⟨A, c, hv, hc, hm, fun hn => ?_⟩
  obtain ⟨b, off, hA, hi⟩ := h hn
  have hs : ∀ f : Fv, (fldC f).length = 2 := fun _ => rfl
  refine ⟨b, off, hA, fun i f hf => ⟨?_, ?_⟩⟩
  · exact hi (i * 2) _ (flat_at hs hf 0 (by omega))
  · rw [Nat.add_assoc]
    exact hi (i * 2 + 1) _ (flat_at hs hf 1 (by omega))
theorem FieldsAt.take {w : World} {A : Option Addr} {n c : Nat} {fs : List Fv} (h : FieldsAt w (.slice A n c) fs) {k : Nat} (hk : k ≤ fs.length) : FieldsAt w (.slice A k c) (fs.take k) := SlC.take h hk
theorem StrsAt.take {w : World} {A : Option Addr} {n c : Nat} {ss : List ByteArray} (h : StrsAt w (.slice A n c) ss) {k : Nat} (hk : k ≤ ss.length) : StrsAt w (.slice A k c) (ss.take k) := SlC.take h hk
end Go.Proofs.YtodbbfgkclkpgaaGreatDoor

namespace Go.Proofs.YtodbbfgkclkpgaaGreatDoor
open Go Go.RowKit

/-- is it one of them -/
def hasB (ss : List ByteArray) (x : ByteArray) : Bool := ss.any fun t => decide (t = x)
theorem hasB_iff {ss : List ByteArray} {x : ByteArray} : hasB ss x = true ↔ x ∈ ss := by
  unfold hasB
  rw [List.any_eq_true]
  constructor
  · rintro ⟨t, ht, h⟩
    rwa [of_decide_eq_true h] at ht
  · intro h; exact ⟨x, h, decide_eq_true rfl⟩

theorem hasStr_calls (v : Value) (ss : List ByteArray) (x : ByteArray) (w : World) (h : StrsAt w v ss) :
    Calls Tryz.prog 142 #[v, .string x] w fun e w' => e = .returned (.bool (hasB ss x)) ∧ w = w' := by
  obtain ⟨A, c, rfl, hc, hm, hr⟩ := h.open
  by_cases hn : ss = []
  · subst hn
    refine (Tryz.slices_Contains_string_empty A c x w).mono fun e w' ⟨he, hw⟩ => ⟨by rw [he]; rfl, hw.symm⟩
  · obtain ⟨b, off, rfl, hi⟩ := hr hn
    refine (Tryz.slices_Contains_string b off ss.length c ss x w (Nat.le_refl _) hm (fun j hj => ?_)).mono fun e w' ⟨he, hw⟩ => ⟨?_, hw.symm⟩
    · have e : ss[j]? = some ss[j] := List.getElem?_eq_getElem hj
      rw [hi j _ e, List.getD_eq_getElem?_getD, e]
      rfl
    · rw [he, List.take_length]
      congr 2
      rw [Bool.eq_iff_iff, Lib.containsS_iff, hasB_iff]

theorem mem_take_data (ss : List ByteArray) (k : Nat) (x : ByteArray) : hasB (ss.take k) x = (((ss.map (·.data.toList)).take k).any fun t => decide (t = x.data.toList)) := by
  rw [← List.map_take, List.any_map]
  unfold hasB
  congr 1
  funext t
  show decide _ = decide (t.data.toList = x.data.toList)
  congr 1
  exact propext ⟨fun h => by rw [h], fun h => data_inj h⟩
theorem pathOk_at {ss : List ByteArray} {k : Nat} {s : ByteArray} (h : ss[k]? = some s) : VP.pathOk (ss.map (·.data.toList)) k = (VP.pathP s.data.toList && !hasB (ss.take k) s) := by
  unfold VP.pathOk
  rw [List.getElem?_map, h, mem_take_data]
  rfl
def pathsB (ss : List ByteArray) : Bool := VP.pathsP (ss.map (·.data.toList))
theorem pathsB_false {ss : List ByteArray} {k : Nat} {s : ByteArray} (h : ss[k]? = some s) (hb : (VP.pathP s.data.toList && !hasB (ss.take k) s) = false) : pathsB ss = false := by
  unfold pathsB VP.pathsP
  rw [VP.allAt_false (i := k) (by rw [List.length_map]; exact (List.getElem?_eq_some_iff.1 h).1) ((pathOk_at h).trans hb)]
  rfl
/-- so far all is well -/
def PathsTo (ss : List ByteArray) (k : Nat) : Prop := ∀ i, i < k → VP.pathOk (ss.map (·.data.toList)) i = true
theorem PathsTo.zero (ss : List ByteArray) : PathsTo ss 0 := fun _ h => absurd h (Nat.not_lt_zero _)
theorem PathsTo.succ {ss : List ByteArray} {k : Nat} {s : ByteArray} (h : PathsTo ss k) (hs : ss[k]? = some s) (hb : (VP.pathP s.data.toList && !hasB (ss.take k) s) = true) : PathsTo ss (k + 1) := fun i hi => by
  rcases Nat.lt_or_ge i k with h' | h'
  · exact h i h'
  · obtain rfl : i = k := by omega
    exact (pathOk_at hs).trans hb
theorem PathsTo.done {ss : List ByteArray} (h : PathsTo ss ss.length) : pathsB ss = decide (ss.length ≤ 20) := by
  unfold pathsB VP.pathsP
  rw [VP.allAt_true (by rw [List.length_map]; exact h), List.length_map]
  rfl

set_option maxHeartbeats 2000000 in
set_option maxRecDepth 100000 in
theorem paths_calls (v : Value) (ss : List ByteArray) (w : World) (hE : Env w) (h : StrsAt w v ss) (hs : ∀ s ∈ ss, s.size ≤ 1000000) : Calls Tryz.prog 69 #[v] w (BoolIs (pathsB ss) w) := by
  obtain ⟨A, c, hv, hc, hm, hr⟩ := h.open
  have HH := Lib.hid h
  subst hv
  obtain ⟨len, hlen⟩ : ∃ len, ss.length = len := ⟨_, rfl⟩
  have HL := Lib.hid hlen
  have HR := Lib.hid hr
  have HS := Lib.hid hs
  have HE := Lib.hid hE
  rw [hlen] at hc hm HH ⊢
  clear hlen hr hs h hE
  go_enter Tryz.func69, Tryz.ntmps69
  go_wp2_with fail
  go_loopw [7] (fun i wr => ∃ k : Nat, k ≤ len ∧ i = .int .i64 k ∧ Hid (PathsTo ss k) ∧ Below w.heap.size w wr) (fun i _ => len - (intOf i).toNat)
  case atStart => exact ⟨0, Nat.zero_le _, rfl, PathsTo.zero ss, Below.refl _ _⟩
  case round =>
    obtain ⟨k, hk, rfl, hall, hB⟩ := hrel
    by_cases hlt : k < len
    · have hne : ss ≠ [] := by
        intro e
        have := HL.out
        rw [e] at this
        simp at this
        omega
      obtain ⟨s, ht⟩ : ∃ s, ss[k]? = some s := ⟨ss[k]'(by have := HL.out; omega), List.getElem?_eq_getElem _⟩
      obtain ⟨b, off, rfl, hi⟩ := HR.out hne
      have c0 := kept hB (hi k s ht)
      have P1 := Lib.hid (path_calls s wr (HE.out.below hB) (HS.out s (List.mem_of_getElem? ht)))
      have HT := Lib.hid ht
      obtain ⟨bp, hbp⟩ : ∃ b, VP.pathP s.data.toList = b := ⟨_, rfl⟩
      rw [hbp] at P1
      have HP := Lib.hid hbp
      have hck : k ≤ c := by omega
      clear hi hne ht hbp
      go_wp2_with fail
      refine P1.out.mono ?_
      rintro E w1 ⟨rfl, hb⟩
      have hB1 := step_below hB hb
      clear hb c0 P1
      cases bp with
      | false =>
        go_wp2_with fail
        go_ret
        exact ⟨ret_bool (by rw [pathsB_false HT.out (by rw [HP.out]; rfl)]), hB1⟩
      | true =>
      have P2 := Lib.hid (hasStr_calls (.slice (some ⟨b, off, none⟩) k c) (ss.take k) s w1 ((HH.out.below hB1).take (by have := HL.out; omega)))
      obtain ⟨bm, hbm⟩ : ∃ x, hasB (ss.take k) s = x := ⟨_, rfl⟩
      rw [hbm] at P2
      have HM := Lib.hid hbm
      clear hbm
      go_wp2_with fail
      refine P2.out.mono ?_
      rintro E w2 ⟨rfl, rfl⟩
      clear P2
      cases bm with
      | true =>
        go_wp2_with fail
        go_ret
        exact ⟨ret_bool (by rw [pathsB_false HT.out (by rw [HP.out, HM.out]; rfl)]), hB1⟩
      | false =>
        go_wp2_with fail
        go_roundw
        case rel => exact ⟨k + 1, by omega, by go_num, Lib.hid (hall.out.succ HT.out (by rw [HP.out, HM.out]; rfl)), hB1⟩
        case measure => simp [intOf]; omega
    · obtain rfl : len = k := by omega
      have HF := Lib.hid (show pathsB ss = decide (len ≤ 20) by have := hall.out; rw [← HL.out] at this; rw [this.done, HL.out])
      by_cases h20 : len ≤ 20
      · go_wp2_with fail
        go_ret
        exact ⟨ret_bool (by rw [HF.out] <;> simp <;> omega), hB⟩
      · go_wp2_with fail
        go_ret
        exact ⟨ret_bool (by rw [HF.out] <;> simp <;> omega), hB⟩

end Go.Proofs.YtodbbfgkclkpgaaGreatDoor

namespace Go.Proofs.YtodbbfgkclkpgaaGreatDoor
open Go.RowKit

theorem bne_of_true {a b : Int} (h : (a == b) = true) : (a != b) = false := by rw [bne, h]; rfl
theorem bne_of_false {a b : Int} (h : (a == b) = false) : (a != b) = true := by rw [bne, h]; rfl

def firstL : List UInt8 := [97, 98, 99, 100, 101, 102, 103, 104, 105, 106, 107, 108, 109, 110, 111, 112, 113, 114, 115, 116, 117, 118, 119, 120, 121, 122, 48, 49, 50, 51, 52, 53, 54, 55, 56, 57]
def firstS : ByteArray := ⟨#[97, 98, 99, 100, 101, 102, 103, 104, 105, 106, 107, 108, 109, 110, 111, 112, 113, 114, 115, 116, 117, 118, 119, 120, 121, 122, 48, 49, 50, 51, 52, 53, 54, 55, 56, 57]⟩
def idxN (c : UInt8) : Int := Lib.indexByte firstL c
theorem idxN_fin : ∀ i : Fin 256, decide (0 ≤ idxN (UInt8.ofNat i.val)) = VP.nm0 (UInt8.ofNat i.val) := by decide +kernel
theorem idxN_nm0 (c : UInt8) : decide (0 ≤ idxN c) = VP.nm0 c := by
  have := idxN_fin ⟨c.toNat, c.toNat_lt⟩
  simpa using this
set_option maxRecDepth 100000 in
theorem call_idxN (c : UInt8) (w : World) : Calls Tryz.prog 136 #[.string ⟨#[97, 98, 99, 100, 101, 102, 103, 104, 105, 106, 107, 108, 109, 110, 111, 112, 113, 114, 115, 116, 117, 118, 119, 120, 121, 122, 48, 49, 50, 51, 52, 53, 54, 55, 56, 57]⟩, .int .u8 (c.toNat : Int)] w fun e w' => e = .returned (.int .i64 (idxN c)) ∧ w = w' :=
  (Tryz.strings_IndexByte firstS (c.toNat : Int) w).mono fun e w' ⟨he, hw⟩ => ⟨by rw [he]; unfold idxN; simp [firstS, firstL], hw.symm⟩

def cutN : List UInt8 := firstL ++ [43, 45, 46]
theorem cutN_ok : ∀ i : Fin 256, cutN.contains (UInt8.ofNat i.val) = VP.nm1 (UInt8.ofNat i.val) := by decide +kernel
theorem cutN_asc : (cutN.all fun b => decide (b.toNat < 128)) = true := by decide

set_option maxHeartbeats 1000000 in
set_option maxRecDepth 100000 in
theorem name_calls (s : ByteArray) (w : World) : Calls Tryz.prog 65 #[.string s] w (BoolIs (VP.nameP s.data.toList) w) := by
  have hl := size_eq_length s
  have F := Lib.hid (show VP.nameP s.data.toList = (decide (2 ≤ s.size) && decide (s.size ≤ 24) && VP.startsNm s.data.toList && s.data.toList.all VP.nm1) by unfold VP.nameP; rw [hl])
  clear hl
  by_cases h2 : 2 ≤ s.size
  · by_cases h24 : s.size ≤ 24
    · have hst := Lib.hid (show VP.startsNm s.data.toList = VP.nm0 s[0] by rw [list_cons s (by omega)]; rfl)
      have hd : VP.nm0 s[0] = true ∨ VP.nm0 s[0] = false := by cases VP.nm0 s[0] <;> simp
      rcases hd with hd | hd
      · have hi : 0 ≤ idxN s[0] := of_decide_eq_true ((idxN_nm0 s[0]).trans hd)
        have HD := Lib.hid hd
        clear hd
        have ha : s.data.toList.all VP.nm1 = true ∨ s.data.toList.all VP.nm1 = false := by cases s.data.toList.all VP.nm1 <;> simp
        go_enter Tryz.func65, Tryz.ntmps65
        go_wp2_with (go_at_call 136; refine (call_idxN _ _).mono ?_; rintro E w' ⟨rfl, rfl⟩)
        refine (call_trimAll s _ cutN VP.nm1 _ (by rfl) cutN_ok cutN_asc (by decide) (by omega)).mono ?_
        rintro E w1 ⟨t, rfl, ht, hb⟩
        rcases ha with ha | ha
        · have ht' : t.toList.isEmpty = true := Eq.trans ht ha
          have HA := Lib.hid ha
          clear ht ha
          go_wp2_with fail
          go_ret
          exact ⟨ret_bool (by rw [F.out, hst.out, HD.out, HA.out] <;> simp <;> omega), hb⟩
        · have ht' : t.toList.isEmpty = false := Eq.trans ht ha
          have HA := Lib.hid ha
          clear ht ha
          go_wp2_with fail
          go_ret
          exact ⟨ret_bool (by rw [F.out, HA.out] <;> simp), hb⟩
      · have hi : ¬ 0 ≤ idxN s[0] := of_decide_eq_false ((idxN_nm0 s[0]).trans hd)
        have HD := Lib.hid hd
        clear hd
        go_enter Tryz.func65, Tryz.ntmps65
        go_wp2_with (go_at_call 136; refine (call_idxN _ _).mono ?_; rintro E w' ⟨rfl, rfl⟩)
        go_ret
        exact ⟨ret_bool (by rw [F.out, hst.out, HD.out] <;> simp), Below.refl _ _⟩
    · go_enter Tryz.func65, Tryz.ntmps65
      go_wp2_with fail
      go_ret
      exact ⟨ret_bool (by rw [F.out, decide_eq_false h24] <;> simp), Below.refl _ _⟩
  · go_enter Tryz.func65, Tryz.ntmps65
    go_wp2_with fail
    go_ret
    exact ⟨ret_bool (by rw [F.out, decide_eq_false h2] <;> simp), Below.refl _ _⟩
end Go.Proofs.YtodbbfgkclkpgaaGreatDoor
