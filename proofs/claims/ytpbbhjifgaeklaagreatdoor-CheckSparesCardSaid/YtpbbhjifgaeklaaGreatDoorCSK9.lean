/- errors.As at an Errno: what it does where the error is none, and where it is an Errno (after the kit's worked example of errors.As at a pointer). · Errors taken apart: api.Tell, plain.Place, and the statements' bare, of no error and of an Errno. · status.Next, status.May: which state comes of a state and an event: by the table, as it lies. · A range over an iterator that keeps its place in a cell of its own (strings.SplitSeq): the law for the loop, outside and within another such loop; every way out of the body is its end or a return. · strings.SplitSeq at a separator of one byte: its contract as an iterator. · Paths: what the program asks of one, and what the reference asks, are the same: plain Lean. · What depend.term calls, in our words: blanks at the ends, a bracket, a sign ahead. · depend.term: a package that is asked for, read. · stanza.Small, the reference's Small: a name in small letters. · strings.Builder: written on, and read. · stanza.text: fields, written: the walk. · stanza.Right's closure: two names alike in small letters; is one of some fields called so. · What a field says, line by line; how long what is written is: plain. -/
import Derived.Test.YtpbbhjifgaeklaaGreatDoorCSK1
import Derived.LaidEql
import Derived.Stop.Asserts
import Derived.RowKitTokens
import Derived.Test.YtpbbhjifgaeklaaGreatDoorCSK5
import Derived.Deep.RegionHeld3
import Derived.Deep.DeepCutAuto
import Derived.RangeFuncNested
import Derived.RangeFuncBound
import Derived.RangeFuncCalls
import Derived.RangeFuncLeaves
import Derived.Shelf.Abstract
import Derived.WalkKit
import Derived.OwnWalkIn
import Derived.TacticsInMore
import Derived.LoopNIn
import Derived.LoopIn
import Derived.Lib.IndexMore
import Derived.Deep.CutBlock
import Derived.Deep.Cut
import Derived.Lib.ConvBytes
import Derived.Laws.IdiomStrings
import Derived.OwnWalk
import Derived.Shelf.Strings.BuilderF
import Derived.Test.YtpbbhjifgaeklaaGreatDoorCSK3
import Derived.Shelf.Strings.SplitShaped
namespace Go.Proofs.YtpbbhjifgaeklaaGreatDoor
open Go.RowKit Go.Extern.Stop Go.Stop Go.Extern

/-! ### CLOSED FACTS ON THE MODEL's ENTRIES FOR internal/reflectlite, at this program's types: 25: *p.E · 27: **p.E · 23: error · 45: reflectlite's rtype · 1: how many package-level variables the dump has -/
theorem as_valueOf27 (t : Addr) (w : World) : (ReflectliteValue.unpack (.iface 200 (.pointer (some t)))).run Tryz.prog w
    = .ok (.agg #[.pointer (some ⟨11, 200, none⟩), .pointer (some ⟨w.heap.size, 0, none⟩), .int .u64 150]) (w.alloc (.cells #[.pointer (some t)] 200)) := by kernel_rfl
theorem as_type27 (a : Addr) (w : World) : (ReflectliteValue.methodAny (ReflectliteValue.valueError "reflectlite.Value.Type" 0) (fun t _ _ _ => ReflectliteType.toType t) #[.agg #[.pointer (some ⟨11, 200, none⟩), .pointer (some a), .int .u64 150]]).run Tryz.prog w
    = .ok (.iface 304 (.agg #[.pointer (some ⟨11, 200, none⟩)])) w := by kernel_rfl
theorem as_methodKind (h : Value) (w : World) : (Go.method 472 304 (.agg #[h]) "Kind").run Tryz.prog w = .ok (334, h) w := by kernel_rfl
theorem as_kind27 (w : World) : ((ReflectliteType.abiMethod fun t => (fun a : Nat => Value.int IntKind.u8 (a : Int)) <$> Rtype.kind t) #[.pointer (some ⟨11, 200, none⟩)]).run Tryz.prog w = .ok (.int .u8 22) w := by kernel_rfl
theorem as_kind25 (w : World) : ((ReflectliteType.abiMethod fun t => (fun a : Nat => Value.int IntKind.u8 (a : Int)) <$> Rtype.kind t) #[.pointer (some ⟨11, 43, none⟩)]).run Tryz.prog w = .ok (.int .u8 2) w := by kernel_rfl

/-! ### THE ENTRIES THAT READ OR WRITE MEMORY: laws with a premise on the cell (after Derived/Lib/ReflectliteSlice.lean's manner: each unfolding a lemma of its own, by rfl) -/
theorem rlm (z : Sem Value) (f : TypeId → Addr → Nat → Nat → Sem Value) (v : Value) :
    ReflectliteValue.method z f #[v] = (do match ← ReflectliteValue.parts v with | none => z | some (t, a, fl) => f t a fl (fl % 32)) := rfl
theorem as_parts27 (a : Addr) (w : World) : (ReflectliteValue.parts (.agg #[.pointer (some ⟨11, 200, none⟩), .pointer (some a), .int .u64 150])).run Tryz.prog w = .ok (some (200, a, 150)) w := by kernel_rfl
/-- (Value).IsNil at the Value of a **p.E that is not nil. -/
theorem as_isNil27 (a p : Addr) (W : World) (ha : W.cell? a = some (.pointer (some p))) :
    (ReflectliteValue.method (ReflectliteValue.valueError "reflectlite.Value.IsNil" 0) ReflectliteValue.isNil #[.agg #[.pointer (some ⟨11, 200, none⟩), .pointer (some a), .int .u64 150]]).run Tryz.prog W = .ok (.bool false) W := by
  rw [rlm]
  simp only [Sem.run_bind, as_parts27, Result.andThen]
  simp [ReflectliteValue.isNil, loadVar, isAgg, underlying, Tryz.underlying200, ha, Result.andThen]

theorem as_methodElem (h : Value) (w : World) : (Go.method 472 304 (.agg #[h]) "Elem").run Tryz.prog w = .ok (351, .agg #[h]) w := by kernel_rfl
theorem as_methodImplements (h : Value) (w : World) : (Go.method 472 304 (.agg #[h]) "Implements").run Tryz.prog w = .ok (352, .agg #[h]) w := by kernel_rfl
theorem as_methodAssignableTo (h : Value) (w : World) : (Go.method 472 304 (.agg #[h]) "AssignableTo").run Tryz.prog w = .ok (349, .agg #[h]) w := by kernel_rfl
theorem as_elem27 (w : World) : (ReflectliteType.method ReflectliteType.elem #[.agg #[.pointer (some ⟨11, 200, none⟩)]]).run Tryz.prog w = .ok (.iface 304 (.agg #[.pointer (some ⟨11, 43, none⟩)])) w := by kernel_rfl
theorem as_implements25 (w : World) : (ReflectliteType.relation "Implements" ReflectliteType.implements_ #[.agg #[.pointer (some ⟨11, 43, none⟩)], .iface 304 (.agg #[.pointer (some ⟨11, 31, none⟩)])]).run Tryz.prog w = .ok (.bool true) w := by kernel_rfl
theorem as_typeOf25 (v : Value) (w : World) : (ReflectliteType.typeOf #[.iface 43 v]).run Tryz.prog w = .ok (.iface 304 (.agg #[.pointer (some ⟨11, 43, none⟩)])) w := by kernel_rfl
theorem as_assignable25 (w : World) : (ReflectliteType.relation "AssignableTo" ReflectliteType.assignableTo #[.agg #[.pointer (some ⟨11, 43, none⟩)], .iface 304 (.agg #[.pointer (some ⟨11, 43, none⟩)])]).run Tryz.prog w = .ok (.bool true) w := by kernel_rfl
theorem as_valueOf25 (n : Int) (w : World) : (ReflectliteValue.unpack (.iface 43 (.int .i64 n))).run Tryz.prog w
    = .ok (.agg #[.pointer (some ⟨11, 43, none⟩), .pointer (some ⟨w.heap.size, 0, none⟩), .int .u64 130]) (w.alloc (.cells #[.int .i64 n] 43)) := by kernel_rfl

theorem as_elemOf27 (w : World) : (Rtype.elem? 200).run Tryz.prog w = .ok (some 43) w := by kernel_rfl
theorem as_mk25 (p : Addr) (w : World) : (ReflectliteValue.mk 43 p ReflectliteValue.flagAddr).run Tryz.prog w = .ok (.agg #[.pointer (some ⟨11, 43, none⟩), .pointer (some p), .int .u64 386]) w := by kernel_rfl
/-- (Value).Elem at the Value of a **p.E that is not nil: the Value of the *p.E variable that it points to, addressable. -/
theorem as_elemV27 (a p : Addr) (W : World) (ha : W.cell? a = some (.pointer (some p))) :
    (ReflectliteValue.method (ReflectliteValue.valueError "reflectlite.Value.Elem" 0) ReflectliteValue.elem #[.agg #[.pointer (some ⟨11, 200, none⟩), .pointer (some a), .int .u64 150]]).run Tryz.prog W
      = .ok (.agg #[.pointer (some ⟨11, 43, none⟩), .pointer (some p), .int .u64 386]) W := by
  rw [rlm]
  simp only [Sem.run_bind, as_parts27, Result.andThen]
  simp [ReflectliteValue.elem, loadVar, isAgg, underlying, Tryz.underlying200, ha, Result.andThen, as_elemOf27, as_mk25]
theorem rls (v x : Value) : ReflectliteValue.set #[v, x] = (do
    let (some (dst, a, fl), some (src, b, _)) := (← ReflectliteValue.parts v, ← ReflectliteValue.parts x)
      | unsupported (.noEntry "extern/(internal/reflectlite.Value).Set.zeroValue")
    if fl / ReflectliteValue.flagAddr % 2 == 0 then unsupported (.noEntry "extern/(internal/reflectlite.Value).Set.unaddressable")
    let val ← loadVar src b
    if ← Rtype.directlyAssignable dst src then storeVar dst a val
    else if ← Rtype.implements dst src then
      if (← Rtype.kind src) == 20 then
        match val with
        | .nilIface => unsupported (.noEntry "extern/reflectlite: a nil value of one interface type handed on as a value of another")
        | _ => storeVar dst a val
      else storeVar dst a (.iface src val)
    else panicString ("reflectlite.Set: value of type " ++ (← Rtype.spelt src) ++ " is not assignable to type " ++ (← Rtype.spelt dst))
    pure (.tuple #[])) := rfl
theorem as_parts25a (a : Addr) (w : World) : (ReflectliteValue.parts (.agg #[.pointer (some ⟨11, 43, none⟩), .pointer (some a), .int .u64 386])).run Tryz.prog w = .ok (some (43, a, 386)) w := by kernel_rfl
theorem as_parts25 (a : Addr) (w : World) : (ReflectliteValue.parts (.agg #[.pointer (some ⟨11, 43, none⟩), .pointer (some a), .int .u64 130])).run Tryz.prog w = .ok (some (43, a, 130)) w := by kernel_rfl
theorem as_direct25 (w : World) : (Rtype.directlyAssignable 43 43).run Tryz.prog w = .ok true w := by kernel_rfl
/-- (Value).Set: the *p.E variable at 'ta' gets what the Value's own variable 'b' holds. -/
theorem as_set25 (ta b : Addr) (n : Int) (old : Value) (W : World) (hb : W.cell? b = some (.int .i64 n)) (ht : W.cell? ta = some old) (hf : W.frozen? ta = false) :
    (ReflectliteValue.set #[.agg #[.pointer (some ⟨11, 43, none⟩), .pointer (some ta), .int .u64 386], .agg #[.pointer (some ⟨11, 43, none⟩), .pointer (some b), .int .u64 130]]).run Tryz.prog W
      = .ok (.tuple #[]) (W.setCell ta (.int .i64 n)) := by
  rw [rls]
  simp only [Sem.run_bind, as_parts25a, as_parts25, Result.andThen]
  simp [ReflectliteValue.flagAddr, loadVar, isAgg, underlying, Tryz.underlying43, hb, Result.andThen, as_direct25, storeVar, Value.cells, storeCells, Addr.add]
  rw [run_store Tryz.prog W ta _ _ (by rfl)]
  simp [ht, hf]

end Go.Proofs.YtpbbhjifgaeklaaGreatDoor

namespace Go.Proofs.YtpbbhjifgaeklaaGreatDoor
open Go.RowKit

/-- errors.errorType is laid -/
def EnvE (w : World) : Prop := w.cell? ⟨2, 0, none⟩ = some (.iface 304 (.agg #[.pointer (some ⟨11, 31, none⟩)]))
theorem EnvE.below {w w' : World} (h : EnvE w) (hb : Below w.heap.size w w') : EnvE w' := kept hb h

end Go.Proofs.YtpbbhjifgaeklaaGreatDoor

namespace Go.Proofs.YtpbbhjifgaeklaaGreatDoor
open Go Go.RowKit

def afterR : List (List Int) := [[0, 0, 0, 0, 0, 0, 0, 0], [2, 2, 2, 2, 2, 2, 2, 2], [-1, -1, 3, -1, -1, -1, -1, -1], [-1, -1, -1, 4, 4, -1, -1, -1], [-1, -1, -1, -1, 7, -1, -1, -1], [-1, -1, 2, -1, 4, -1, 4, -1], [-1, -1, 2, 2, 2, 2, 2, 2], [-1, -1, 1, -1, -1, -1, -1, -1], [-1, 0, 0, -1, -1, -1, -1, -1], [-1, -1, -1, -1, -1, 5, 6, 6], [-1, -1, -1, -1, -1, -1, 7, -1]]
/-- which state comes of an event and a state -/
def afterT (e s : Nat) : Int := (afterR.getD e []).getD s 0
/-- status.after is laid -/
def EnvN (w : World) : Prop := ∀ e s, e < 11 → s < 8 → w.cell? ⟨1, e * 8 + s, none⟩ = some (.int .i64 (afterT e s))
theorem EnvN.below {w w' : World} (h : EnvN w) (hb : Below w.heap.size w w') : EnvN w' := fun e s he hs => kept hb (h e s he hs)

theorem arr11 : Tryz.prog.arrayLen 175 = 11 := by kernel_rfl
theorem arr8 : Tryz.prog.arrayLen 174 = 8 := by kernel_rfl
theorem arr11s (W : World) : (sizeOf (Tryz.prog.elem 175)).run Tryz.prog W = .ok 8 W := by kernel_rfl
theorem arr8s (W : World) : (sizeOf (Tryz.prog.elem 174)).run Tryz.prog W = .ok 1 W := by kernel_rfl
theorem after_at (W : World) (e : Nat) (h : e < 11) : (Instr.indexAt 175 (.pointer (some ⟨1, 0, none⟩)) (.int .i64 (e : Int))).run Tryz.prog W = .ok (.pointer (some ⟨1, e * 8, none⟩)) W := by
  have h := run_indexAt_array (P := Tryz.prog) (w := W) 175 ⟨1, 0, none⟩ .i64 (e : Int) (by kernel_rfl)
  rw [arr11, if_pos ⟨by omega, by omega⟩, arr11s] at h
  refine h.trans ?_
  show Result.ok (Value.pointer (some ((⟨1, 0, none⟩ : Addr).add (((e : Nat) : Int).toNat * 8)))) W = _
  rw [Int.toNat_natCast, Go.WideShapes.add_plain, Nat.zero_add]
theorem after_at2 (W : World) (o s : Nat) (h : s < 8) : (Instr.indexAt 174 (.pointer (some ⟨1, o, none⟩)) (.int .i64 (s : Int))).run Tryz.prog W = .ok (.pointer (some ⟨1, o + s, none⟩)) W := by
  have h := run_indexAt_array (P := Tryz.prog) (w := W) 174 ⟨1, o, none⟩ .i64 (s : Int) (by kernel_rfl)
  rw [arr8, if_pos ⟨by omega, by omega⟩, arr8s] at h
  refine h.trans ?_
  show Result.ok (Value.pointer (some ((⟨1, o, none⟩ : Addr).add (((s : Nat) : Int).toNat * 1)))) W = _
  rw [Int.toNat_natCast, Nat.mul_one, Go.WideShapes.add_plain]

def NextIs (e s : Nat) (w : World) (E : Ending) (w' : World) : Prop := E = .returned (if 0 ≤ afterT e s then .tuple #[.int .i64 (afterT e s), .nilIface] else .tuple #[.int .i64 0, .iface 43 (.int .i64 6)]) ∧ w = w'

set_option maxRecDepth 100000 in
theorem next_calls (e s : Nat) (he1 : 1 ≤ e) (he : e ≤ 10) (hs : s ≤ 7) (w : World) (hN : EnvN w) : Calls Tryz.prog 56 #[.int .i64 s, .int .i64 e] w (NextIs e s w) := by
  have c0 := hN e s (by omega) (by omega)
  have i1 := fun W => after_at W e (by omega)
  have i2 := fun W => after_at2 W (e * 8) s (by omega)
  unfold NextIs
  obtain ⟨n, hn⟩ : ∃ n, afterT e s = n := ⟨_, rfl⟩
  rw [hn] at c0 ⊢
  clear hn hN
  have h1 : ¬ ((s : Int) < 0) := by omega
  have h2 : ¬ ((7 : Int) < (s : Int)) := by omega
  have h3 : ¬ ((e : Int) < 1) := by omega
  have h4 : ¬ ((10 : Int) < (e : Int)) := by omega
  clear he1 he hs
  by_cases h : 0 ≤ n
  · rw [if_pos h]
    go_enter Tryz.func56, Tryz.ntmps56
    go_wp2_with fail
    go_ret2
    exact ⟨rfl, rfl⟩
  · rw [if_neg h]
    go_enter Tryz.func56, Tryz.ntmps56
    go_wp2_with fail
    go_ret2
    exact ⟨rfl, rfl⟩

set_option maxRecDepth 100000 in
theorem may_calls (e s : Nat) (he1 : 1 ≤ e) (he : e ≤ 10) (hs : s ≤ 7) (w : World) (hN : EnvN w) : Calls Tryz.prog 35 #[.int .i64 s, .int .i64 e] w fun E w' => E = .returned (.bool (decide (0 ≤ afterT e s))) ∧ w = w' := by
  have C := next_calls e s he1 he hs w hN
  unfold NextIs at C
  by_cases h : 0 ≤ afterT e s
  · rw [decide_eq_true h]
    rw [if_pos h] at C
    have C := Lib.hid C
    obtain ⟨n, hn⟩ : ∃ n, afterT e s = n := ⟨_, rfl⟩
    rw [hn] at C
    clear hn h he1 he hs
    go_enter Tryz.func35, Tryz.ntmps35
    go_wp2_with fail
    refine C.out.mono ?_
    rintro E w' ⟨rfl, rfl⟩
    go_wp2_with fail
    go_ret
    exact ⟨rfl, rfl⟩
  · rw [decide_eq_false h]
    rw [if_neg h] at C
    have C := Lib.hid C
    clear h he1 he hs
    go_enter Tryz.func35, Tryz.ntmps35
    go_wp2_with fail
    refine C.out.mono ?_
    rintro E w' ⟨rfl, rfl⟩
    go_wp2_with fail
    go_ret
    exact ⟨rfl, rfl⟩
end Go.Proofs.YtpbbhjifgaeklaaGreatDoor

namespace Go.Proofs.YtpbbhjifgaeklaaGreatDoor
open Go Go.RowKit

section
variable {F : Fence} {n : Nat} {P : Program} {w : World}

/-- what the caller says abides the turn of the iterator's own cell, and of what is no cells from B on -/
def OwnBox {β : Type} (B Bs : Nat) (I : β → World → Prop) : Prop :=
  ∀ s W W' row, I s W → W.grownBy W' row → (∀ r, row = some r → r = Bs ∨ (B ≤ r ∧ ∃ o : Obj, W.heap[r]? = some o ∧ o.isCells = false)) → I s W'
theorem OwnBox.alloc {β : Type} {B Bs : Nat} {I : β → World → Prop} (h : OwnBox B Bs I) {s : β} {W : World} (o : Obj) (hs : I s W) : I s (W.alloc o) :=
  h s W _ none hs (World.grownBy_alloc W o none) (fun r e => by cases e)
end
end Go.Proofs.YtpbbhjifgaeklaaGreatDoor

namespace Go.Proofs.YtpbbhjifgaeklaaGreatDoor
open Go Go.RowKit Go.Shelf

attribute [local go_sem] Oper.semAt_some

/-- the three boxes of the function value: the text, the separator, a nought -/
def SplitBoxes (W : World) (b : Nat) (s : ByteArray) (c : UInt8) : Prop :=
  Boxed W b 9 (.string s) ∧ Boxed W (b + 1) 9 (.string ⟨#[c]⟩) ∧ Boxed W (b + 2) 3 (.int .i64 0)
/-- what a round keeps for the iterator -/
def KeepsSplit (b : Nat) (W W' : World) : Prop := ∀ k, b ≤ k → k ≤ b + 2 → W'.heap[k]? = W.heap[k]?
theorem KeepsSplit.refl (b : Nat) (W : World) : KeepsSplit b W W := fun _ _ _ => rfl
theorem KeepsSplit.trans {b : Nat} {A B C : World} (h : KeepsSplit b A B) (k : KeepsSplit b B C) : KeepsSplit b A C := fun i h1 h2 => (k i h1 h2).trans (h i h1 h2)
theorem SplitBoxes.keep {W W' : World} {b : Nat} {s : ByteArray} {c : UInt8} (h : SplitBoxes W b s c) (hk : KeepsSplit b W W') : SplitBoxes W' b s c :=
  ⟨(hk b (Nat.le_refl _) (by omega)).trans h.1, (hk (b + 1) (by omega) (by omega)).trans h.2.1, (hk (b + 2) (by omega) (Nat.le_refl _)).trans h.2.2⟩

end Go.Proofs.YtpbbhjifgaeklaaGreatDoor

namespace Go.Proofs.YtpbbhjifgaeklaaGreatDoor.VP

theorem contains_cons (c : UInt8) (l sub : List UInt8) : Lib.contains (c :: l) sub = (sub.isPrefixOf (c :: l) || Lib.contains l sub) := by
  unfold Lib.contains
  rw [show Lib.index (c :: l) sub = if sub.isPrefixOf (c :: l) then 0 else if Lib.index l sub == -1 then -1 else Lib.index l sub + 1 from rfl]
  have hge := Lib.index_ge l sub
  cases h : sub.isPrefixOf (c :: l) with
  | true => simp
  | false =>
    simp only [Bool.false_or]
    by_cases h1 : Lib.index l sub = -1
    · simp [h1]
    · have : (Lib.index l sub == -1) = false := by rw [beq_eq_false_iff_ne]; exact h1
      rw [this]
      simp only [Bool.false_eq_true, if_false]
      rw [decide_eq_true (by omega : (0 : Int) ≤ Lib.index l sub + 1), decide_eq_true (by omega : (0 : Int) ≤ Lib.index l sub)]

end Go.Proofs.YtpbbhjifgaeklaaGreatDoor.VP

namespace Go.Proofs.YtpbbhjifgaeklaaGreatDoor
open Go.RowKit

/-- a term in a box of the call's own -/
structure Box5 (W : World) (g : Nat) (n : ByteArray) (op e : Int) (u r : ByteArray) : Prop where
  c0 : W.cell? ⟨g, 0, none⟩ = some (.string n)
  c1 : W.cell? ⟨g, 1, none⟩ = some (.int .i64 op)
  c2 : W.cell? ⟨g, 2, none⟩ = some (.int .i64 e)
  c3 : W.cell? ⟨g, 3, none⟩ = some (.string u)
  c4 : W.cell? ⟨g, 4, none⟩ = some (.string r)
  f0 : W.frozen? ⟨g, 0, none⟩ = false
  f1 : W.frozen? ⟨g, 1, none⟩ = false
  f2 : W.frozen? ⟨g, 2, none⟩ = false
  f3 : W.frozen? ⟨g, 3, none⟩ = false
  f4 : W.frozen? ⟨g, 4, none⟩ = false

theorem Box5.below {W W' : World} {g : Nat} {n : ByteArray} {op e : Int} {u r : ByteArray} (h : Box5 W g n op e u r) (hb : Below W.heap.size W W') : Box5 W' g n op e u r :=
  have hz : g < W.heap.size := cell_lt h.c0
  ⟨kept hb h.c0, kept hb h.c1, kept hb h.c2, kept hb h.c3, kept hb h.c4, keptf hb hz h.f0, keptf hb hz h.f1, keptf hb hz h.f2, keptf hb hz h.f3, keptf hb hz h.f4⟩
theorem Box5.other {W : World} {g g' j : Nat} {n : ByteArray} {op e : Int} {u r : ByteArray} {v : Value} (h : Box5 W g n op e u r) (hne : g ≠ g') : Box5 (W.setCell ⟨g', j, none⟩ v) g n op e u r := by
  obtain ⟨c0, c1, c2, c3, c4, f0, f1, f2, f3, f4⟩ := h
  exact ⟨by go_cell, by go_cell, by go_cell, by go_cell, by go_cell, by simp [go_sem, f0], by simp [go_sem, f1], by simp [go_sem, f2], by simp [go_sem, f3], by simp [go_sem, f4]⟩
end Go.Proofs.YtpbbhjifgaeklaaGreatDoor

namespace Go.Proofs.YtpbbhjifgaeklaaGreatDoor
open Go.RowKit

/-- of some length at most, with numbers that are int's -/
structure Tv.wide (t : Tv) : Prop where
  n : t.n.size ≤ 200000
  u : t.u.size ≤ 200000
  r : t.r.size ≤ 200000
  ok : t.ok

end Go.Proofs.YtpbbhjifgaeklaaGreatDoor

namespace Go.Proofs.YtpbbhjifgaeklaaGreatDoor
open Go Go.RowKit

/-- a row of n bytes of the call's own -/
structure ByteRow (w0 w : World) (b : Nat) (n : Nat) (f : Nat → UInt8) : Prop where
  cells : ∀ j, j < n → w.cell? ⟨b, j, none⟩ = some (.int .u8 ((f j).toNat : Int))
  free : ∀ j, j < n → w.frozen? ⟨b, j, none⟩ = false
  below : Below w0.heap.size w0 w
  high : w0.heap.size ≤ b

theorem ByteRow.store {w0 w : World} {b n k : Nat} {f g : Nat → UInt8} (h : ByteRow w0 w b n f) (hk : k < n) (hg : ∀ j, j ≠ k → g j = f j) {z : Int} (hz : z = ((g k).toNat : Int)) : ByteRow w0 (w.setCell ⟨b, k, none⟩ (.int .u8 z)) b n g where
  cells := fun j hj => by
    by_cases e : j = k
    · subst e
      rw [World.cell?_setCell_same (v := .int .u8 z) (h := h.cells j hj), hz]
    · have hne : (⟨b, k, none⟩ : Addr) ≠ ⟨b, j, none⟩ := fun e' => e (by injection e' with _ h2 _; exact h2.symm)
      rw [World.cell?_setCell_other (h := hne), h.cells j hj, hg j e]
  free := fun j hj => by rw [World.frozen?_setCell]; exact h.free j hj
  below := h.below.setCell h.high _
  high := h.high
theorem ByteRow.same {w0 w : World} {b n : Nat} {f g : Nat → UInt8} (h : ByteRow w0 w b n f) (hg : ∀ j, j < n → g j = f j) : ByteRow w0 w b n g := ⟨fun j hj => by rw [hg j hj]; exact h.cells j hj, h.free, h.below, h.high⟩

end Go.Proofs.YtpbbhjifgaeklaaGreatDoor

namespace Go.Proofs.YtpbbhjifgaeklaaGreatDoor
open Go Go.RowKit

/-- the builder at b (of the call's own, from B on) holds these bytes -/
def BldAt (B b : Nat) (l : List UInt8) (w : World) : Prop := Lib.IsBuilderF 179 5 B b (Lib.byteCells l) w
theorem BldAt.alloc {B b : Nat} {l : List UInt8} {w : World} (h : BldAt B b l w) (o : Obj) : BldAt B b l (w.alloc o) := Lib.IsBuilderF.alloc h o
theorem BldAt.drewN {B b : Nat} {l : List UInt8} {w : World} (h : BldAt B b l w) (n : Nat) : BldAt B b l (w.drewN n) := h
end Go.Proofs.YtpbbhjifgaeklaaGreatDoor

namespace Go.Proofs.YtpbbhjifgaeklaaGreatDoor
open Go Go.RowKit

/-- cut at the first line feed -/
structure Cut10 (s A R : ByteArray) (m : Bool) (todo : List (List UInt8)) : Prop where
  pcs : VP.pieces 10 s.data.toList = A.data.toList :: todo
  more : m = true → VP.pieces 10 R.data.toList = todo
  none : m = false → todo = []
  small : A.size ≤ s.size
  less : m = true → R.size < s.size
/-- what is written so far, and what is to come -/
structure WroteAt (w w' : World) (T l todo : List UInt8) : Prop where
  eq : l ++ todo = T
  bld : BldAt w.heap.size w.heap.size l w'
  below : Below w.heap.size w w'
theorem WroteAt.len {w w' : World} {T l todo : List UInt8} (h : WroteAt w w' T l todo) : l.length + todo.length = T.length := by rw [← h.eq, List.length_append]
end Go.Proofs.YtpbbhjifgaeklaaGreatDoor

namespace Go.Proofs.YtpbbhjifgaeklaaGreatDoor
open Go Go.RowKit

/-- alike in small letters -/
def sameN (a b : ByteArray) : Bool := decide (VP.smallP a.data.toList = VP.smallP b.data.toList)
end Go.Proofs.YtpbbhjifgaeklaaGreatDoor

namespace Go.Proofs.YtpbbhjifgaeklaaGreatDoor.VP
end Go.Proofs.YtpbbhjifgaeklaaGreatDoor.VP
namespace Go.Proofs.YtpbbhjifgaeklaaGreatDoor
open Go Go.RowKit

/-- the fields so far are well -/
def FieldsTo (fs : List Fv) (k : Nat) : Prop := ∀ i, i < k → VP.fieldOk (fs.map Fv.fd) i = true
theorem any_named (fs : List Fv) (k : Nat) (n : ByteArray) : (((fs.map Fv.fd).take k).any fun g => decide (VP.smallP g.n = VP.smallP n.data.toList)) = (fs.take k).any (fun g => sameN g.n n) := by
  rw [← List.map_take, List.any_map]
  rfl
theorem fieldOk_at {fs : List Fv} {k : Nat} {f : Fv} (h : fs[k]? = some f) : VP.fieldOk (fs.map Fv.fd) k = (VP.fnameP f.n.data.toList && !((fs.take k).any fun g => sameN g.n f.n) && VP.valueP f.v.data.toList) := by
  unfold VP.fieldOk
  rw [List.getElem?_map, h, ← any_named]
  rfl
def stanzaB (fs : List Fv) : Bool := VP.stanzaP (fs.map Fv.fd)
theorem FieldsTo.succ {fs : List Fv} {k : Nat} {f : Fv} (h : FieldsTo fs k) (hf : fs[k]? = some f) (hb : (VP.fnameP f.n.data.toList && !((fs.take k).any fun g => sameN g.n f.n) && VP.valueP f.v.data.toList) = true) : FieldsTo fs (k + 1) := fun i hi => by
  rcases Nat.lt_or_ge i k with h' | h'
  · exact h i h'
  · obtain rfl : i = k := by omega
    exact (fieldOk_at hf).trans hb
theorem FieldsTo.done {fs : List Fv} (h : FieldsTo fs fs.length) (h1 : 1 ≤ fs.length) (h40 : fs.length ≤ 40) : stanzaB fs = decide ((VP.textL (fs.map Fv.fd)).length ≤ 4000) := by
  unfold stanzaB VP.stanzaP
  rw [VP.allAt_true (by rw [List.length_map]; exact h), List.length_map, decide_eq_true h1, decide_eq_true h40]
  rfl
end Go.Proofs.YtpbbhjifgaeklaaGreatDoor
