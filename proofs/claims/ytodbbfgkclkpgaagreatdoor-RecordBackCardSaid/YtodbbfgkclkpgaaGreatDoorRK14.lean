/- append(dst, src...) on a row of the call's own, from a slice that may be nil. · Slices in memory whose elements have so many cells each: texts, fields, files. · strings.Builder: written on, and read. · stanza.text: fields, written: the walk. -/
import Derived.Test.YtodbbfgkclkpgaaGreatDoorRK13
import Derived.Deep.AppendSrc
import Derived.Test.YtodbbfgkclkpgaaGreatDoorRK7
import Derived.Test.YtodbbfgkclkpgaaGreatDoorRK2
import Derived.Shelf.Strings.BuilderF
import Derived.Test.YtodbbfgkclkpgaaGreatDoorRK3
import Derived.Deep.DeepCutAuto
namespace Go.Proofs.YtodbbfgkclkpgaaGreatDoor
open Go Go.RowKit

/-- this value is a slice of m elements that yields these cells -/
def SrcIs (w : World) (y : Value) (m : Nat) (news : List Value) : Prop := ∃ A c, y = .slice A m c ∧ (m ≠ 0 → ∃ b off, A = some ⟨b, off, none⟩ ∧ ∀ j u, news[j]? = some u → w.cell? ⟨b, off + j, none⟩ = some u)
theorem SrcIs.below {w w' : World} {y : Value} {m : Nat} {news : List Value} (h : SrcIs w y m news) (hb : Below w.heap.size w w') : SrcIs w' y m news := by
  obtain ⟨A, c, hy, h1⟩ := h
  refine ⟨A, c, hy, fun hm => ?_⟩
  obtain ⟨b, off, hA, hc⟩ := h1 hm
  exact ⟨b, off, hA, fun j u hj => kept hb (hc j u hj)⟩

section
variable {P : Program} (w : World)
theorem setCells_nil (b off : Nat) : w.setCells b off [] = w := rfl

/-- appended whatever comes: a row of the call's own -/
theorem wpList_append_src {ops : Array Oper} {rest : List Oper} {o : Oper} {a : Act} {Q : Exit → Act → World → Prop} (hgd : o.guard = none) (s x : Operand) (t : TypeId)
    (ho : o.op = .call { callee := .builtin .append, args := #[s, x], argTypes := #[t, t] })
    (base : Nat) (e : TypeId) (i : TypeInfo) (z : Value) (size bytes : Nat) (ht : P.underlying t = some (.slice e)) (hi : P.info? e = some i) (hz : i.zero = some z)
    (hsize : i.size = size) (hby : i.bytes = bytes) (hzs : z.cells.size = size) (hsz : 0 < size)
    (v : Value) (n : Nat) (xs : List Value) (hs : a.eval s = v) (hown : w.ownsRow base e size v n xs)
    (y : Value) (m : Nat) (news : List Value) (hx : a.eval x = y) (hsrc : SrcIs w y m news) (hl : news.length = m * size) (h1 : ∀ u ∈ news, u.oneCell' = true)
    (h63 : n + m ≤ maxLen) (hbytes : (n + m) * bytes ≤ 140737488355328) (hbase : base ≤ w.heap.size)
    (h : ∀ v' w', w'.ownsRow base e size v' (n + m) (xs ++ news) → w.grownBy w' v.ownBlock → wpList P ops Q rest (a.put o.dst v') w') : wpList P ops Q (o :: rest) a w := by
  obtain ⟨A, c, hy, hc⟩ := hsrc
  cases A with
  | some ad =>
    refine wpList_append_own w hgd s x t ho base e i z size bytes ht hi hz hsize hby hzs hsz v n xs hs hown ad m c news (hx.trans hy) hl ?_ h1 h63 hbytes hbase fun v' w' h2 h3 _ => h v' w' h2 h3
    intro j u hj
    by_cases hm : m = 0
    · subst hm
      rw [Nat.zero_mul] at hl
      rw [List.eq_nil_of_length_eq_zero hl] at hj
      cases hj
    · obtain ⟨b, off, hA, hcc⟩ := hc hm
      obtain rfl := Option.some.inj hA
      rw [Go.WideShapes.add_plain]
      exact hcc j u hj
  | none =>
    have hm0 : m = 0 := by
      by_cases hm : m = 0
      · exact hm
      · obtain ⟨b, off, hA, _⟩ := hc hm
        cases hA
    subst hm0
    rw [Nat.zero_mul] at hl
    obtain rfl := List.eq_nil_of_length_eq_zero hl
    rcases id hown.2 with ⟨rfl, rfl⟩ | ⟨g, cap, cur, rfl, hbg, hg, hnc, hcm, hcs, htake⟩
    · refine wpList_plain hgd fun K hK => ?_
      have hr : (Builtin.append_ #[t, t] o.type #[.slice none 0 0, .slice none 0 c]).run P w = .ok (.slice none 0 0) w := by
        simp [Builtin.append_, run_underlying ht, sizeOf, typeInfo, hi, Builtin.lenOf, Builtin.firstCells]
      unfold Oper.wp execOp
      simp only [ho, resolve, invoke, builtin, Sem.run_bind, Sem.run_pure, Result.andThen_ok, List.map_toArray, List.map_cons, List.map_nil, hs, hx.trans hy, hr]
      refine hK _ _ (h _ _ ?_ (World.grownBy.refl _ _))
      rw [List.append_nil]; exact hown
    · refine wpList_plain hgd fun K hK => ?_
      have hr := run_append_room_src (P := P) w t t o.type e i ht hi g 0 n cap (.slice none 0 c) 0 [] (Src.ofNil w ht c) (by omega) (fun j hj => by cases hj) (fun j hj => by cases hj)
      rw [setCells_nil] at hr
      unfold Oper.wp execOp
      simp only [ho, resolve, invoke, builtin, Sem.run_bind, Sem.run_pure, Result.andThen_ok, List.map_toArray, List.map_cons, List.map_nil, hs, hx.trans hy, hr]
      refine hK _ _ (h _ _ ?_ (World.grownBy.refl _ _))
      rw [List.append_nil]; exact hown
end

theorem below_grown {w0 w w' : World} {e : TypeId} {size n : Nat} {v : Value} {xs : List Value} (hB : Below w0.heap.size w0 w) (ho : w.ownsRow w0.heap.size e size v n xs) (hg : w.grownBy w' v.ownBlock) : Below w0.heap.size w0 w' :=
  hB.grown hg hB.size (fun g e => (ho.lt g e).1)
theorem made_at (w : World) (e : TypeId) (size : Nat) : (w.alloc (.cells #[] e)).ownsRow w.heap.size e size (.slice (some ⟨w.heap.size, 0, none⟩) 0 0) 0 [] := World.ownsRow_made w #[] 0 (Nat.le_refl _) (by decide) (by simp)
end Go.Proofs.YtodbbfgkclkpgaaGreatDoor

namespace Go.Proofs.YtodbbfgkclkpgaaGreatDoor
open Go Go.RowKit

section
variable {α : Type} {cs : α → List Value} {size : Nat}
/-- this value is a slice; the cells of its elements are these -/
def SlC (cs : α → List Value) (w : World) (v : Value) (xs : List α) : Prop :=
  ∃ A c, v = .slice A xs.length c ∧ xs.length ≤ c ∧ xs.length ≤ 9223372036854775807 ∧ (xs ≠ [] → ∃ b off, A = some ⟨b, off, none⟩ ∧ ∀ (j : Nat) (u : Value), (xs.flatMap cs)[j]? = some u → w.cell? ⟨b, off + j, none⟩ = some u)

theorem SlC.below {w w' : World} {v : Value} {xs : List α} (h : SlC cs w v xs) (hb : Below w.heap.size w w') : SlC cs w' v xs := by
  obtain ⟨A, c, hv, hc, hm, h⟩ := h
  refine ⟨A, c, hv, hc, hm, fun hn => ?_⟩
  obtain ⟨b, off, hA, hi⟩ := h hn
  exact ⟨b, off, hA, fun j u hj => kept hb (hi j u hj)⟩

theorem SlC.nil (w : World) (A : Option Addr) (c : Nat) : SlC cs w (.slice A 0 c) [] := ⟨A, c, rfl, Nat.zero_le _, by simp, fun h => absurd rfl h⟩

theorem flat_at (hs : ∀ x, (cs x).length = size) {xs : List α} {i : Nat} {x : α} (h : xs[i]? = some x) (r : Nat) (hr : r < size) : (xs.flatMap cs)[i * size + r]? = (cs x)[r]? := by
  induction xs generalizing i with
  | nil => cases h
  | cons a xs ih =>
    rw [List.flatMap_cons]
    cases i with
    | zero =>
      obtain rfl := Option.some.inj h
      rw [List.getElem?_append_left (by rw [hs]; omega)]
      congr 1
      omega
    | succ i =>
      rw [List.getElem?_append_right (by rw [hs, Nat.succ_mul]; omega), hs, show (i + 1) * size + r - size = i * size + r by rw [Nat.succ_mul]; omega]
      exact ih h
theorem flat_length (hs : ∀ x, (cs x).length = size) (xs : List α) : (xs.flatMap cs).length = xs.length * size := by
  induction xs with
  | nil => simp
  | cons a xs ih => rw [List.flatMap_cons, List.length_append, ih, hs, List.length_cons, Nat.succ_mul]; omega

theorem SlC.src {w : World} {v : Value} {xs : List α} (h : SlC cs w v xs) : SrcIs w v xs.length (xs.flatMap cs) := by
  obtain ⟨A, c, hv, _, _, h⟩ := h
  exact ⟨A, c, hv, fun hn => h (fun e => hn (by rw [e]; rfl))⟩

theorem slc_of_own {w : World} {base : Nat} {e : TypeId} {v : Value} {n : Nat} {xs : List α} (h : w.ownsRow base e size v n (xs.flatMap cs)) (hn : n = xs.length) (hb : n ≤ 9223372036854775807) : SlC cs w v xs := by
  subst hn
  rcases h.2 with ⟨rfl, h0⟩ | ⟨g, cap, cur, rfl, hg, hk, hc, hm, hs, ht⟩
  · refine ⟨none, 0, by rw [h0], by omega, hb, fun hne => ?_⟩
    exact absurd (List.eq_nil_of_length_eq_zero h0) hne
  · refine ⟨some ⟨g, 0, none⟩, cap, rfl, hc, hb, fun _ => ⟨g, 0, rfl, fun j u hj => ?_⟩⟩
    have := h.cells (g := g) rfl j u hj
    rwa [Go.WideShapes.add_plain] at this

theorem SlC.take {w : World} {A : Option Addr} {n c : Nat} {xs : List α} (h : SlC cs w (.slice A n c) xs) {k : Nat} (hk : k ≤ xs.length) : SlC cs w (.slice A k c) (xs.take k) := by
  obtain ⟨A', c', hv, hc, hm, h⟩ := h
  injection hv with h1 h2 h3
  subst h1
  subst h3
  refine ⟨A, c, by rw [List.length_take, Nat.min_eq_left hk], by rw [List.length_take]; omega, by rw [List.length_take]; omega, fun hn => ?_⟩
  obtain ⟨b, off, hA, hi⟩ := h (fun e => hn (by rw [e]; simp))
  refine ⟨b, off, hA, fun j u hj => hi j u ?_⟩
  have e : xs.flatMap cs = (xs.take k).flatMap cs ++ (xs.drop k).flatMap cs := by rw [← List.flatMap_append, List.take_append_drop]
  rw [e, List.getElem?_append_left (List.getElem?_eq_some_iff.1 hj).1]
  exact hj
end

/-! texts -/
def strC (s : ByteArray) : List Value := [.string s]
def StrsAt (w : World) (v : Value) (ss : List ByteArray) : Prop := SlC strC w v ss
theorem StrsAt.below {w w' : World} {v : Value} {ss : List ByteArray} (h : StrsAt w v ss) (hb : Below w.heap.size w w') : StrsAt w' v ss := SlC.below h hb
theorem flat_strs (ss : List ByteArray) : ss.flatMap strC = ss.map Value.string := by
  induction ss with
  | nil => rfl
  | cons a ss ih => rw [List.flatMap_cons, ih]; rfl
theorem StrsAt.open {w : World} {v : Value} {ss : List ByteArray} (h : StrsAt w v ss) :
    ∃ A c, v = .slice A ss.length c ∧ ss.length ≤ c ∧ ss.length ≤ 9223372036854775807 ∧ (ss ≠ [] → ∃ b off, A = some ⟨b, off, none⟩ ∧ ∀ (i : Nat) (s : ByteArray), ss[i]? = some s → w.cell? ⟨b, off + i, none⟩ = some (.string s)) := by
  obtain ⟨A, c, hv, hc, hm, h⟩ := h
  refine ⟨A, c, hv, hc, hm, fun hn => ?_⟩
  obtain ⟨b, off, hA, hi⟩ := h hn
  refine ⟨b, off, hA, fun i s hs => hi i _ ?_⟩
  rw [flat_strs, List.getElem?_map, hs]; rfl

/-! fields, files: two texts each -/
structure Fv where
  n : ByteArray
  v : ByteArray
def Fv.fd (f : Fv) : VP.Fd := ⟨f.n.data.toList, f.v.data.toList⟩
def fldC (f : Fv) : List Value := [.string f.n, .string f.v]
def FieldsAt (w : World) (v : Value) (fs : List Fv) : Prop := SlC fldC w v fs
theorem FieldsAt.below {w w' : World} {v : Value} {fs : List Fv} (h : FieldsAt w v fs) (hb : Below w.heap.size w w') : FieldsAt w' v fs := SlC.below h hb
theorem FieldsAt.open {w : World} {v : Value} {fs : List Fv} (h : FieldsAt w v fs) :
    ∃ A c, v = .slice A fs.length c ∧ fs.length ≤ c ∧ fs.length ≤ 9223372036854775807 ∧ (fs ≠ [] → ∃ b off, A = some ⟨b, off, none⟩ ∧ ∀ (i : Nat) (f : Fv), fs[i]? = some f → w.cell? ⟨b, off + i * 2, none⟩ = some (.string f.n) ∧ w.cell? ⟨b, off + i * 2 + 1, none⟩ = some (.string f.v)) := by
  obtain ⟨A, c, hv, hc, hm, h⟩ := h
  refine ⟨A, c, hv, hc, hm, fun hn => ?_⟩
  obtain ⟨b, off, hA, hi⟩ := h hn
  have hs : ∀ f : Fv, (fldC f).length = 2 := fun _ => rfl
  refine ⟨b, off, hA, fun i f hf => ⟨?_, ?_⟩⟩
  · exact hi (i * 2) _ (flat_at hs hf 0 (by omega))
  · rw [Nat.add_assoc]
    exact hi (i * 2 + 1) _ (flat_at hs hf 1 (by omega))
theorem FieldsAt.take {w : World} {A : Option Addr} {n c : Nat} {fs : List Fv} (h : FieldsAt w (.slice A n c) fs) {k : Nat} (hk : k ≤ fs.length) : FieldsAt w (.slice A k c) (fs.take k) := SlC.take h hk
theorem StrsAt.take {w : World} {A : Option Addr} {n c : Nat} {ss : List ByteArray} (h : StrsAt w (.slice A n c) ss) {k : Nat} (hk : k ≤ ss.length) : StrsAt w (.slice A k c) (ss.take k) := SlC.take h hk
end Go.Proofs.YtodbbfgkclkpgaaGreatDoor

namespace Go.Proofs.YtodbbfgkclkpgaaGreatDoor
open Go Go.RowKit

/-- the builder at b (of the call's own, from B on) holds these bytes -/
def BldAt (B b : Nat) (l : List UInt8) (w : World) : Prop := Lib.IsBuilderF 108 5 B b (Lib.byteCells l) w
theorem bld_fresh (w : World) : BldAt w.heap.size w.heap.size [] (w.alloc (.cells #[.pointer none, .slice none 0 0] 108)) := Lib.IsBuilderF.of (Lib.fresh_isBuilder 108 5 w)
theorem BldAt.alloc {B b : Nat} {l : List UInt8} {w : World} (h : BldAt B b l w) (o : Obj) : BldAt B b l (w.alloc o) := Lib.IsBuilderF.alloc h o
theorem BldAt.drewN {B b : Nat} {l : List UInt8} {w : World} (h : BldAt B b l w) (n : Nat) : BldAt B b l (w.drewN n) := h
theorem bld_write (B b : Nat) (l : List UInt8) (s : ByteArray) (w : World) (h : BldAt B b l w) (hlen : l.length + s.size ≤ 140737488355328) (hBw : B ≤ w.heap.size) :
    Calls Tryz.prog 81 #[.pointer (some ⟨b, 0, none⟩), .string s] w fun e w' => e = .returned (.tuple #[.int .i64 s.size, .nilIface]) ∧ BldAt B b (l ++ s.data.toList) w' ∧ Below B w w' :=
  (Any.Builder_WriteString_f { Tryz.lays156 with } Tryz.Builder_Extra_156 B b (Lib.byteCells l) s w h (by rw [Lib.byteCells_length]; exact hlen) hBw).mono fun e w' ⟨he, hb, hB⟩ => by
    refine ⟨he, ?_, hB⟩
    unfold BldAt
    rw [Lib.byteCells_append, ← Lib.strCells_eq]
    exact Or.inr hb
theorem bld_string (B b : Nat) (l : List UInt8) (w : World) (h : BldAt B b l w) (hBw : B ≤ w.heap.size) :
    Calls Tryz.prog 83 #[.pointer (some ⟨b, 0, none⟩)] w fun e w' => e = .returned (.string ⟨l.toArray⟩) ∧ BldAt B b l w' ∧ Below B w w' :=
  (Tryz.Builder_String_any_f B b l w h hBw).mono fun _ _ h => h
end Go.Proofs.YtodbbfgkclkpgaaGreatDoor

namespace Go.Proofs.YtodbbfgkclkpgaaGreatDoor
open Go Go.RowKit

/-- cut at the first line feed -/
structure Cut10 (s A R : ByteArray) (m : Bool) (todo : List (List UInt8)) : Prop where
  pcs : VP.pieces 10 s.data.toList = A.data.toList :: todo
  more : m = true → VP.pieces 10 R.data.toList = todo
  none : m = false → todo = []
  small : A.size ≤ s.size
  less : m = true → R.size < s.size
def CutIs (s : ByteArray) (w : World) (E : Ending) (w' : World) : Prop := ∃ (A R : ByteArray) (m : Bool) (todo : List (List UInt8)) (n : Nat), E = .returned (.tuple #[.string A, .string R, .bool m]) ∧ Cut10 s A R m todo ∧ w' = w.drewN n
theorem call_cut10 (s : ByteArray) (w : World) (hE : Env w) (hs : s.size ≤ 1000000) : Calls Tryz.prog 121 #[.string s, .string ⟨#[10]⟩] w (CutIs s w) := by
  obtain ⟨⟨m, hm⟩, _⟩ := hE
  refine (Tryz.strings_Cut s ⟨#[10]⟩ m w (by omega) hm).mono fun e w' ⟨he, n, hw⟩ => ?_
  have e1 : (⟨#[10]⟩ : ByteArray).data.toList = [10] := rfl
  rw [e1, cut_one] at he
  cases hc : VP.cutAt 10 s.data.toList with
  | none =>
    rw [hc] at he
    exact ⟨s, ⟨#[]⟩, false, [], n, he, ⟨VP.pieces_none hc, fun h => (by cases h), fun _ => rfl, Nat.le_refl _, fun h => (by cases h)⟩, hw⟩
  | some p =>
    obtain ⟨a, b⟩ := p
    rw [hc] at he
    obtain ⟨e2, _⟩ := VP.cutAt_some hc
    have hl : s.size = a.length + 1 + b.length := by rw [size_eq_length, e2]; simp; omega
    exact ⟨⟨a.toArray⟩, ⟨b.toArray⟩, true, VP.pieces 10 b, n, he, ⟨VP.pieces_some hc, fun _ => rfl, fun h => (by cases h), (by rw [size_eq_length]; simp; omega), fun _ => (by rw [size_eq_length]; simp; omega)⟩, hw⟩

/-- what is there is still there, one draw or more on -/
theorem env_drewN {w : World} (h : Env w) (n : Nat) : Env (w.drewN n) := h.below (below_drewN _ _ _)

theorem textL_drop {fs : List Fv} {k : Nat} {f : Fv} (h : fs[k]? = some f) : VP.textL ((fs.drop k).map Fv.fd) = (f.n.data.toList ++ 58 :: VP.linesL (VP.pieces 10 f.v.data.toList)) ++ VP.textL ((fs.drop (k + 1)).map Fv.fd) := by
  have hlt := (List.getElem?_eq_some_iff.1 h).1
  have e : fs.drop k = f :: fs.drop (k + 1) := by
    rw [List.drop_eq_getElem_cons hlt]
    congr 1
    rw [List.getElem?_eq_getElem hlt] at h
    exact Option.some.inj h
  rw [e, List.map_cons]
  unfold VP.textL
  rw [List.flatMap_cons]
  rfl

/-- no line behind the first one is empty -/
def RestFull (fs : List Fv) : Prop := ∀ f ∈ fs, ∀ a r, VP.pieces 10 f.v.data.toList = a :: r → ∀ t ∈ r, t ≠ []

def moreSize (r m : Value) : Nat := match r, m with
  | .string s, .bool true => s.size + 1
  | _, _ => 0

def TextIs (fs : List Fv) (w : World) (E : Ending) (w' : World) : Prop := E = .returned (.string ⟨(VP.textL (fs.map Fv.fd)).toArray⟩) ∧ Below w.heap.size w w'

/-- what is written so far, and what is to come -/
structure WroteAt (w w' : World) (T l todo : List UInt8) : Prop where
  eq : l ++ todo = T
  bld : BldAt w.heap.size w.heap.size l w'
  below : Below w.heap.size w w'
theorem WroteAt.len {w w' : World} {T l todo : List UInt8} (h : WroteAt w w' T l todo) : l.length + todo.length = T.length := by rw [← h.eq, List.length_append]
theorem WroteAt.write {w w1 : World} {T l a todo : List UInt8} (h : WroteAt w w1 T l (a ++ todo)) (s : ByteArray) (hs : s.data.toList = a) (hT : T.length ≤ 100000000000) :
    Calls Tryz.prog 81 #[.pointer (some ⟨w.heap.size, 0, none⟩), .string s] w1 fun e w' => ∃ r, e = .returned r ∧ WroteAt w w' T (l ++ a) todo := by
  have hl := h.len
  rw [List.length_append] at hl
  have hz : s.size = a.length := by rw [size_eq_length, hs]
  refine (bld_write w.heap.size w.heap.size l s w1 h.bld (by omega) h.below.size).mono fun e w' ⟨he, hb, hB⟩ => ⟨_, he, ?_, ?_, ?_⟩
  · rw [List.append_assoc]; exact h.eq
  · rw [← hs]; exact hb
  · exact h.below.trans hB

set_option maxHeartbeats 4000000 in
set_option maxRecDepth 100000 in
theorem text_calls (v : Value) (fs : List Fv) (w : World) (hE : Env w) (h : FieldsAt w v fs) (hs : ∀ f ∈ fs, f.n.size ≤ 1000000 ∧ f.v.size ≤ 1000000) (hr0 : RestFull fs) (hT : (VP.textL (fs.map Fv.fd)).length ≤ 100000000000) :
    Calls Tryz.prog 134 #[v] w (TextIs fs w) := by
  obtain ⟨A, c, hv, hc, hm, hr⟩ := h.open
  subst hv
  obtain ⟨len, hlen⟩ : ∃ len, fs.length = len := ⟨_, rfl⟩
  have HL := Lib.hid hlen
  have HR := Lib.hid hr
  have HS := Lib.hid hs
  have HE := Lib.hid hE
  have HF := Lib.hid hr0
  obtain ⟨T, hTe⟩ : ∃ T, VP.textL (fs.map Fv.fd) = T := ⟨_, rfl⟩
  have HTe := Lib.hid hTe
  rw [hTe] at hT
  have HT := Lib.hid hT
  have H0 := Lib.hid (show WroteAt w (w.alloc (.cells #[.pointer none, .slice none 0 0] 108)) T [] (VP.textL ((fs.drop 0).map Fv.fd)) from ⟨by rw [List.drop_zero, hTe]; rfl, bld_fresh w, below_alloc _ _⟩)
  rw [hlen] at hc hm ⊢
  clear hlen hr hs h hE hr0 hTe hT
  go_enter Tryz.func134, Tryz.ntmps134
  go_wp2_with fail
  go_loopw [12] (fun i wr => ∃ (k : Nat) (l : List UInt8), k ≤ len ∧ i = .int .i64 k ∧ Hid (WroteAt w wr T l (VP.textL ((fs.drop k).map Fv.fd)))) (fun i _ => len - (intOf i).toNat)
  case atStart => exact ⟨0, [], Nat.zero_le _, rfl, H0⟩
  case round =>
    obtain ⟨k, l, hk, rfl, hw⟩ := hrel
    by_cases hlt : k < len
    · have hne : fs ≠ [] := by
        intro e
        have := HL.out
        rw [e] at this
        simp at this
        omega
      obtain ⟨f, ht⟩ : ∃ f, fs[k]? = some f := ⟨fs[k]'(by have := HL.out; omega), List.getElem?_eq_getElem _⟩
      obtain ⟨b, off, rfl, hi⟩ := HR.out hne
      obtain ⟨c0, c1⟩ := hi k f ht
      replace c0 := kept hw.out.below c0
      replace c1 := kept hw.out.below c1
      obtain ⟨z0, z1⟩ := HS.out f (List.mem_of_getElem? ht)
      have hw1 := hw.out
      rw [textL_drop ht] at hw1
      have HFull := Lib.hid (HF.out f (List.mem_of_getElem? ht))
      have hE1 := HE.out.below (hw1.below.trans ((below_alloc wr (.cells #[.string f.n, .string f.v] 69)).mono hw1.below.size))
      have CC := Lib.hid (call_cut10 f.v _ hE1 z1)
      have HW := Lib.hid hw1
      have hsz := hw1.below.size
      obtain ⟨B, hB⟩ : ∃ B, w.heap.size = B := ⟨_, rfl⟩
      clear hi hne ht hw1 hw hE1
      go_wp2_with fail
      refine CC.out.mono ?_
      rintro E w1 ⟨A0, R0, m0, todo, n, rfl, hcut, rfl⟩
      have HW1 : Hid (WroteAt w ((wr.alloc (.cells #[.string f.n, .string f.v] 69)).drewN n) T l (f.n.data.toList ++ 58 :: VP.linesL (VP.pieces 10 f.v.data.toList) ++ VP.textL ((fs.drop (k + 1)).map Fv.fd))) :=
        Lib.hid ⟨HW.out.eq, (HW.out.bld.alloc _).drewN n, (HW.out.below.trans ((below_alloc wr (.cells #[.string f.n, .string f.v] 69)).mono HW.out.below.size)).trans (below_drewN _ _ _)⟩
      have d0 : ((wr.alloc (.cells #[.string f.n, .string f.v] 69)).drewN n).cell? ⟨wr.heap.size, 0, none⟩ = some (.string f.n) := kept (below_drewN _ _ _) (by go_cell)
      have HC := Lib.hid hcut
      clear hcut CC HW c0 c1
      generalize (wr.alloc (.cells #[.string f.n, .string f.v] 69)).drewN n = w2 at HW1 d0 ⊢
      obtain ⟨Z, hZ⟩ : ∃ Z, VP.textL ((fs.drop (k + 1)).map Fv.fd) = Z := ⟨_, rfl⟩
      have HZ := Lib.hid hZ
      rw [hZ, HC.out.pcs] at HW1
      clear hZ
      have HFl := Lib.hid (HFull.out _ _ HC.out.pcs)
      have HM := Lib.hid HC.out.more
      have HN := Lib.hid HC.out.none
      have hRz : m0 = true → R0.size ≤ 1000000 := fun h => by have := HC.out.less h; omega
      have hAz : A0.size ≤ 1000000 := by have := HC.out.small; omega
      have HRz := Lib.hid hRz
      clear HFull HC hRz hB
      have hz0 : A0.size = 0 ∨ 0 < A0.size := by omega
      have h1 := HW1.out
      rw [show f.n.data.toList ++ 58 :: VP.linesL (A0.data.toList :: todo) ++ Z = (f.n.data.toList ++ [58]) ++ (VP.firstL2 A0.data.toList ++ (todo.flatMap VP.restL ++ Z)) by simp [VP.linesL]] at h1
      have C1 := Lib.hid (h1.write (f.n ++ ⟨#[58]⟩) (append_data _ _) HT.out)
      clear h1 HW1
      go_wp2_with fail
      refine C1.out.mono ?_
      rintro E w3 ⟨r3, rfl, h3⟩
      have H3 := Lib.hid h3
      clear h3 C1 d0
      go_upto_if 28 with fail
      go_cut [6, 7, 8] (fun s6 s7 s8 wx => s6 = .string A0 ∧ s7 = .string R0 ∧ s8 = .bool m0 ∧ ∃ l', Hid (WroteAt w wx T l' ([10] ++ (todo.flatMap VP.restL ++ Z))))
      case first =>
        rcases hz0 with hz | hz
        · have hem := isEmpty_true A0 hz
          have h3 := H3.out
          rw [show VP.firstL2 A0.data.toList = [10] by
            have e : A0.data.toList = [] := List.eq_nil_of_length_eq_zero (by rw [← size_eq_length]; exact hz)
            rw [e]; rfl] at h3
          have H4 := Lib.hid h3
          clear h3 H3
          rw [hem, show (!true) = false from rfl]
          go_wp2_with fail
          go_meet
          exact ⟨rfl, rfl, rfl, _, H4⟩
        · have hem := isEmpty_false A0 hz
          have h3 := H3.out
          rw [show VP.firstL2 A0.data.toList ++ (todo.flatMap VP.restL ++ Z) = (32 :: A0.data.toList) ++ ([10] ++ (todo.flatMap VP.restL ++ Z)) by
            have e : A0.data.toList ≠ [] := fun e => by
              have := size_eq_length A0
              rw [e, List.length_nil] at this
              omega
            simp [VP.firstL2, e]] at h3
          have C2 := Lib.hid (h3.write (⟨#[32]⟩ ++ A0) (append_data _ _) HT.out)
          clear h3 H3
          rw [hem, show (!false) = true from rfl]
          go_wp2_with fail
          refine C2.out.mono ?_
          rintro E w4 ⟨r4, rfl, h4⟩
          have H4 := Lib.hid h4
          clear h4 C2
          go_wp2_with fail
          go_meet
          exact ⟨rfl, rfl, rfl, _, H4⟩
      case rest =>
        obtain ⟨rfl, rfl, rfl, l4, H4⟩ := hcut
        clear H3 hz0
        have C3 := Lib.hid (H4.out.write ⟨#[10]⟩ rfl HT.out)
        clear H4
        go_wp2_with fail
        refine C3.out.mono ?_
        rintro E w5 ⟨r5, rfl, h5⟩
        have H5 := Lib.hid h5
        clear h5 C3
        go_wp2_with fail
        go_loopw [7, 8] (fun r m wx => ∃ (R : ByteArray) (mm : Bool) (l' : List UInt8) (td : List (List UInt8)), r = .string R ∧ m = .bool mm ∧ Hid (mm = true → R.size ≤ 1000000) ∧ Hid (mm = true → VP.pieces 10 R.data.toList = td) ∧ Hid (mm = false → td = []) ∧ Hid (∀ t ∈ td, t ≠ []) ∧ Hid (WroteAt w wx T l' (td.flatMap VP.restL ++ Z))) (fun r m _ => moreSize r m)
        case atStart => exact ⟨R0, m0, _, todo, rfl, rfl, HRz, HM, HN, HFl, H5⟩
        case round =>
          clear H5 HRz HM HN HFl
          obtain ⟨R, mm, l', td, rfl, rfl, HRz, HM, HN, HFl, HW⟩ := hrel
          cases mm with
          | false =>
            have hnil := HN.out rfl
            subst hnil
            have HW' := Lib.hid (show WroteAt w wr T l' (VP.textL ((fs.drop (k + 1)).map Fv.fd)) by have := HW.out; rw [HZ.out]; simpa using this)
            clear HW HN HM HRz HFl
            go_wp2_with fail
            go_roundw
            case rel => exact ⟨k + 1, l', by omega, by go_num, HW'⟩
            case measure => simp [intOf]; omega
          | true =>
            have hR := HRz.out rfl
            have hP := HM.out rfl
            have CC := Lib.hid (call_cut10 R wr (HE.out.below HW.out.below) hR)
            have HP := Lib.hid hP
            clear HRz HM HN hP
            go_wp2_with fail
            refine CC.out.mono ?_
            rintro E w6 ⟨A1, R1, m1, td2, n1, rfl, hcut, rfl⟩
            have hne1 : A1.data.toList ≠ [] := HFl.out _ (by rw [← HP.out, hcut.pcs]; exact .head _)
            have hz1 : 0 < A1.size := by
              rcases Nat.eq_zero_or_pos A1.size with e | e
              · exact absurd (List.eq_nil_of_length_eq_zero (by rw [← size_eq_length]; exact e)) hne1
              · exact e
            have hA1 : A1.size ≤ 1000000 := by have := hcut.small; omega
            have h7 : WroteAt w (wr.drewN n1) T l' (VP.restL A1.data.toList ++ (td2.flatMap VP.restL ++ Z)) := ⟨by
              have := HW.out.eq
              rw [← HP.out, hcut.pcs] at this
              simpa using this, HW.out.bld.drewN n1, HW.out.below.trans (below_drewN _ _ _)⟩
            have HFl2 : Hid (∀ t ∈ td2, t ≠ []) := Lib.hid (fun t ht => HFl.out t (by rw [← HP.out, hcut.pcs]; exact .tail _ ht))
            have HRz2 : Hid (m1 = true → R1.size ≤ 1000000) := Lib.hid (fun h => by have := hcut.less h; omega)
            have HLess := Lib.hid hcut.less
            have HM2 := Lib.hid hcut.more
            have HN2 := Lib.hid hcut.none
            have hbt : A1[0].toNat < 256 := A1[0].toNat_lt
            have hhd : A1.data.toList.head? = some A1[0] := by rw [list_cons A1 hz1]; rfl
            clear CC HW HP HFl hcut hne1
            generalize wr.drewN n1 = w7 at h7 ⊢
            by_cases h46 : A1[0].toNat = 46
            · have e46 := beqI 46 rfl h46
              rw [show VP.restL A1.data.toList = 32 :: 46 :: (A1.data.toList ++ [10]) by
                unfold VP.restL
                rw [hhd, show A1[0] = 46 from UInt8.toNat_inj.1 h46]
                rfl] at h7
              have C7 := Lib.hid (h7.write ((⟨#[32]⟩ ++ (⟨#[46]⟩ ++ A1)) ++ ⟨#[10]⟩) (by rw [append_data, append_data, append_data]; simp) HT.out)
              clear h7 h46 hhd
              go_wp2_with fail
              refine C7.out.mono ?_
              rintro E w8 ⟨r8, rfl, h8⟩
              have H8 := Lib.hid h8
              clear h8 C7
              go_wp2_with fail
              go_roundw
              case rel => exact ⟨R1, m1, _, td2, rfl, rfl, HRz2, HM2, HN2, HFl2, H8⟩
              case measure => cases m1 with
                | false => simp [moreSize]
                | true => have := HLess.out rfl; simp [moreSize]; omega
            · have e46 := beqI_ne 46 rfl h46
              rw [show VP.restL A1.data.toList = 32 :: (A1.data.toList ++ [10]) by
                unfold VP.restL
                rw [hhd, if_neg (fun e => h46 (by injection e with e; rw [e]; rfl))]] at h7
              have C7 := Lib.hid (h7.write ((⟨#[32]⟩ ++ A1) ++ ⟨#[10]⟩) (by rw [append_data, append_data]; simp) HT.out)
              clear h7 h46 hhd
              go_wp2_with fail
              refine C7.out.mono ?_
              rintro E w8 ⟨r8, rfl, h8⟩
              have H8 := Lib.hid h8
              clear h8 C7
              go_wp2_with fail
              go_roundw
              case rel => exact ⟨R1, m1, _, td2, rfl, rfl, HRz2, HM2, HN2, HFl2, H8⟩
              case measure => cases m1 with
                | false => simp [moreSize]
                | true => have := HLess.out rfl; simp [moreSize]; omega
    · obtain rfl : len = k := by omega
      have hw1 := hw.out
      rw [← HL.out, List.drop_length] at hw1
      have hl : l = T := by
        have := hw1.eq
        simpa [VP.textL] using this
      have C9 := Lib.hid (bld_string w.heap.size w.heap.size l wr hw1.bld hw1.below.size)
      have HBL := Lib.hid hw1.below
      clear hw hw1
      go_wp2_with fail
      refine C9.out.mono ?_
      rintro E w9 ⟨rfl, _, hb9⟩
      have HB9 := Lib.hid (HBL.out.trans hb9)
      clear hb9 C9
      go_wp2_with fail
      go_ret
      exact ⟨by rw [HTe.out]; rfl, HB9.out⟩
end Go.Proofs.YtodbbfgkclkpgaaGreatDoor
