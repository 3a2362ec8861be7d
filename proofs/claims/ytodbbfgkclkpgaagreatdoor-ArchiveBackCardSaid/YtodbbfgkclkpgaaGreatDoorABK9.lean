/- depend.one: how a term is written. · errors.As at an Errno: what it does where the error is none, and where it is an Errno (after the kit's worked example of errors.As at a pointer). · Errors taken apart: api.Tell, plain.Place, and the statements' bare, of no error and of an Errno. -/
import Derived.Test.YtodbbfgkclkpgaaGreatDoorABK8
import Derived.Test.YtodbbfgkclkpgaaGreatDoorABK3
import Derived.LaidEql
import Derived.Stop.Asserts
import Derived.RowKitTokens
namespace Go.Proofs.YtodbbfgkclkpgaaGreatDoor
open Go.RowKit

def oneS (t : Tv) : ByteArray := ⟨(VP.oneP t.tm).toArray⟩
def OneIs (t : Tv) (w : World) (E : Ending) (w' : World) : Prop := E = .returned (.string (oneS t)) ∧ Below w.heap.size w w'

set_option maxRecDepth 100000 in
theorem one0_calls (t : Tv) (w : World) (h0 : t.op = 0) : Calls Tryz.prog 127 #[t.val] w (OneIs t w) := by
  obtain ⟨n, op, e, u, r⟩ := t
  obtain rfl : op = 0 := h0
  have F := Lib.hid (show oneS ⟨n, 0, e, u, r⟩ = n by unfold oneS VP.oneP Tv.tm; rw [if_pos rfl, mk_data])
  unfold Tv.val
  dsimp only
  have hb0 := below_alloc w (.cells #[.string n, .int .i64 0, .int .i64 e, .string u, .string r] 99)
  go_enter Tryz.func127, Tryz.ntmps127
  go_wp2_with fail
  go_ret
  exact ⟨by rw [F.out]; rfl, hb0⟩

/-- the term's cells, its sign's, and what lay before -/
def Six (w : World) (b : Nat) (n : ByteArray) (op e : Int) (u r : ByteArray) (k : Nat) (sg : ByteArray) (W : World) : Prop :=
  W.cell? ⟨b, 0, none⟩ = some (.string n) ∧ W.cell? ⟨b, 1, none⟩ = some (.int .i64 op) ∧ W.cell? ⟨b, 2, none⟩ = some (.int .i64 e) ∧ W.cell? ⟨b, 3, none⟩ = some (.string u) ∧ W.cell? ⟨b, 4, none⟩ = some (.string r) ∧
  W.cell? ⟨3, k, none⟩ = some (.string sg) ∧ Below w.heap.size w W
theorem six_go {w W W' : World} {b : Nat} {n : ByteArray} {op e : Int} {u r : ByteArray} {k : Nat} {sg : ByteArray} (h : Six w b n op e u r k sg W) (hb : Below W.heap.size W W') : Six w b n op e u r k sg W' := by
  obtain ⟨h1, h2, h3, h4, h5, h6, h7⟩ := h
  exact ⟨kept hb h1, kept hb h2, kept hb h3, kept hb h4, kept hb h5, kept hb h6, step_below h7 hb⟩
theorem six_below {w W : World} {b : Nat} {n : ByteArray} {op e : Int} {u r : ByteArray} {k : Nat} {sg : ByteArray} (h : Six w b n op e u r k sg W) : Below w.heap.size w W := h.2.2.2.2.2.2

set_option maxHeartbeats 1000000 in
set_option maxRecDepth 100000 in
theorem one1_calls (n : ByteArray) (k : Nat) (e : Int) (u r : ByteArray) (w : World) (sg T : ByteArray) (h1 : 1 ≤ k) (h6 : k < 6) (hn : n.size ≤ 1000) (hsg : sg.size ≤ 2) (hT : T.size ≤ 40)
    (hc : w.cell? ⟨3, k, none⟩ = some (.string sg)) (hp : Gives w 56 #[.agg #[.int .i64 e, .string u, .string r]] (.string T)) :
    Calls Tryz.prog 127 #[.agg #[.string n, .int .i64 (k : Int), .int .i64 e, .string u, .string r]] w fun E w' => E = .returned (.string (((((n ++ ⟨#[32, 40]⟩) ++ sg) ++ ⟨#[32]⟩) ++ T) ++ ⟨#[41]⟩)) ∧ Below w.heap.size w w' := by
  have hN : Six w w.heap.size n k e u r k sg (w.alloc (.cells #[.string n, .int .i64 (k : Int), .int .i64 e, .string u, .string r] 99)) :=
    ⟨by go_cell, by go_cell, by go_cell, by go_cell, by go_cell, kept (below_alloc _ _) hc, below_alloc _ _⟩
  have hk0 : ((k : Int) == 0) = false := by rw [beq_eq_false_iff_ne]; omega
  have z1 : (n ++ ⟨#[32, 40]⟩ : ByteArray).size = n.size + 2 := by rw [ByteArray.size_append]; rfl
  have z2 : ((n ++ ⟨#[32, 40]⟩) ++ sg : ByteArray).size = n.size + 2 + sg.size := by rw [ByteArray.size_append, z1]
  have z3 : (((n ++ ⟨#[32, 40]⟩) ++ sg) ++ ⟨#[32]⟩ : ByteArray).size = n.size + 2 + sg.size + 1 := by rw [ByteArray.size_append, z2]; rfl
  have z4 : ((((n ++ ⟨#[32, 40]⟩) ++ sg) ++ ⟨#[32]⟩) ++ T : ByteArray).size = n.size + 2 + sg.size + 1 + T.size := by rw [ByteArray.size_append, z3]
  have a1 : ∀ W : World, (Op.stringOp .add n (⟨#[32, 40]⟩ : ByteArray)).run Tryz.prog W = .ok (.string (n ++ ⟨#[32, 40]⟩)) W := fun W => run_string_add_sum W n ⟨#[32, 40]⟩ (by show n.size + 2 ≤ _; omega)
  have a2 : ∀ W : World, (Op.stringOp .add (n ++ ⟨#[32, 40]⟩) sg).run Tryz.prog W = .ok (.string ((n ++ ⟨#[32, 40]⟩) ++ sg)) W := fun W => run_string_add_sum W _ _ (by rw [z1]; omega)
  have a3 : ∀ W : World, (Op.stringOp .add ((n ++ ⟨#[32, 40]⟩) ++ sg) (⟨#[32]⟩ : ByteArray)).run Tryz.prog W = .ok (.string (((n ++ ⟨#[32, 40]⟩) ++ sg) ++ ⟨#[32]⟩)) W := fun W => run_string_add_sum W _ _ (by rw [z2]; show _ + 1 ≤ _; omega)
  have a4 : ∀ W : World, (Op.stringOp .add (((n ++ ⟨#[32, 40]⟩) ++ sg) ++ ⟨#[32]⟩) T).run Tryz.prog W = .ok (.string ((((n ++ ⟨#[32, 40]⟩) ++ sg) ++ ⟨#[32]⟩) ++ T)) W := fun W => run_string_add_sum W _ _ (by rw [z3]; omega)
  have a5 : ∀ W : World, (Op.stringOp .add ((((n ++ ⟨#[32, 40]⟩) ++ sg) ++ ⟨#[32]⟩) ++ T) (⟨#[41]⟩ : ByteArray)).run Tryz.prog W = .ok (.string (((((n ++ ⟨#[32, 40]⟩) ++ sg) ++ ⟨#[32]⟩) ++ T) ++ ⟨#[41]⟩)) W := fun W => run_string_add_sum W _ _ (by rw [z4]; show _ + 1 ≤ _; omega)
  have ix : ∀ W : World, (Instr.indexAt 199 (.pointer (some ⟨3, 0, none⟩)) (.int .i64 (k : Int))).run Tryz.prog W = .ok (.pointer (some ⟨3, k, none⟩)) W := fun W => signs_at W k h6
  clear z1 z2 z3 z4 hc
  go_enter Tryz.func127, Tryz.ntmps127
  go_wp2_with fail
  go_region_held3 (fun W => W.cell? ⟨w.heap.size, 0, none⟩ = some (.string n) ∧ W.cell? ⟨w.heap.size, 1, none⟩ = some (.int .i64 (k : Int)) ∧ W.cell? ⟨w.heap.size, 2, none⟩ = some (.int .i64 e) ∧ W.cell? ⟨w.heap.size, 3, none⟩ = some (.string u) ∧ W.cell? ⟨w.heap.size, 4, none⟩ = some (.string r) ∧ W.cell? ⟨3, k, none⟩ = some (.string sg) ∧ Below w.heap.size w W)
    ((first | assumption | exact six_go (by assumption) hb | exact six_go hN (below_drew _) | exact six_go (by assumption) (below_drew _)))
    (first | (go_at_call 56; (with_reducible refine (Gives.at hp _ ?_).mono ?_); (exact six_below (by assumption)); rintro E w' ⟨rfl, hb⟩))
  all_goals
    go_wp2_with fail
    go_ret
    exact ⟨rfl, six_below (by assumption)⟩

theorem oneTerm_calls (t : Tv) (w : World) (hE : Env w) (hS : EnvS w) (hs : t.small) (hr : VP.RightT t.tm) : Calls Tryz.prog 127 #[t.val] w (OneIs t w) := by
  rcases hr.k with ⟨h0, _⟩ | ⟨hop, hv⟩
  · exact one0_calls t w h0
  · obtain ⟨n, op, e, u, r⟩ := t
    have hop' : op = 1 ∨ op = 2 ∨ op = 3 ∨ op = 4 ∨ op = 5 := hop
    obtain ⟨k, rfl⟩ : ∃ k : Nat, op = (k : Int) := ⟨op.toNat, by omega⟩
    have hk1 : 1 ≤ k := by omega
    have hk6 : k < 6 := by omega
    have hsz := hs.ok
    have hsu := hs.u
    have hsr := hs.r
    have hv' : VP.RightP e u.data.toList r.data.toList := hv
    have hlen := hv'.len
    refine (one1_calls n k e u r w (signS k) ⟨(VP.printP e u.data.toList r.data.toList).toArray⟩ hk1 hk6 hs.n (signS_size k) (by rw [size_eq_length]; exact hlen) (hS k hk6)
      (fun W hb => (print_calls e u r W (hE.below hb) hsz.1 hsz.2.1 (Nat.le_trans hsu (by omega)) (Nat.le_trans hsr (by omega))).mono fun E W' ⟨t', he, ht, hb'⟩ => ⟨by rw [he, ← ht, mk_data], hb'⟩)).mono ?_
    rintro E w1 ⟨rfl, hb⟩
    refine ⟨?_, hb⟩
    congr 2
    apply data_inj
    rw [append_data, append_data, append_data, append_data, append_data]
    show _ = VP.oneP _
    unfold VP.oneP
    rw [if_neg (show ¬ (Tv.tm ⟨n, (k : Int), e, u, r⟩).op = 0 by show ¬ (k : Int) = 0; omega)]
    simp [Tv.tm, signS]
end Go.Proofs.YtodbbfgkclkpgaaGreatDoor

namespace Go.Proofs.YtodbbfgkclkpgaaGreatDoor
open Go.RowKit Go.Extern.Stop Go.Stop Go.Extern

/-! ### CLOSED FACTS ON THE MODEL's ENTRIES FOR internal/reflectlite, at this program's types: 25: *p.E · 27: **p.E · 23: error · 45: reflectlite's rtype · 1: how many package-level variables the dump has -/
theorem as_valueOf27 (t : Addr) (w : World) : (ReflectliteValue.unpack (.iface 152 (.pointer (some t)))).run Tryz.prog w
    = .ok (.agg #[.pointer (some ⟨12, 152, none⟩), .pointer (some ⟨w.heap.size, 0, none⟩), .int .u64 150]) (w.alloc (.cells #[.pointer (some t)] 152)) := by kernel_rfl
theorem as_type27 (a : Addr) (w : World) : (ReflectliteValue.methodAny (ReflectliteValue.valueError "reflectlite.Value.Type" 0) (fun t _ _ _ => ReflectliteType.toType t) #[.agg #[.pointer (some ⟨12, 152, none⟩), .pointer (some a), .int .u64 150]]).run Tryz.prog w
    = .ok (.iface 226 (.agg #[.pointer (some ⟨12, 152, none⟩)])) w := by kernel_rfl
theorem as_methodKind (h : Value) (w : World) : (Go.method 401 226 (.agg #[h]) "Kind").run Tryz.prog w = .ok (247, h) w := by kernel_rfl
theorem as_kind27 (w : World) : ((ReflectliteType.abiMethod fun t => (fun a : Nat => Value.int IntKind.u8 (a : Int)) <$> Rtype.kind t) #[.pointer (some ⟨12, 152, none⟩)]).run Tryz.prog w = .ok (.int .u8 22) w := by kernel_rfl
theorem as_kind25 (w : World) : ((ReflectliteType.abiMethod fun t => (fun a : Nat => Value.int IntKind.u8 (a : Int)) <$> Rtype.kind t) #[.pointer (some ⟨12, 32, none⟩)]).run Tryz.prog w = .ok (.int .u8 2) w := by kernel_rfl

/-! ### THE ENTRIES THAT READ OR WRITE MEMORY: laws with a premise on the cell (after Derived/Lib/ReflectliteSlice.lean's manner: each unfolding a lemma of its own, by rfl) -/
theorem rlm (z : Sem Value) (f : TypeId → Addr → Nat → Nat → Sem Value) (v : Value) :
    ReflectliteValue.method z f #[v] = (do match ← ReflectliteValue.parts v with | none => z | some (t, a, fl) => f t a fl (fl % 32)) := rfl
theorem as_parts27 (a : Addr) (w : World) : (ReflectliteValue.parts (.agg #[.pointer (some ⟨12, 152, none⟩), .pointer (some a), .int .u64 150])).run Tryz.prog w = .ok (some (152, a, 150)) w := by kernel_rfl
/-- (Value).IsNil at the Value of a **p.E that is not nil. -/
theorem as_isNil27 (a p : Addr) (W : World) (ha : W.cell? a = some (.pointer (some p))) :
    (ReflectliteValue.method (ReflectliteValue.valueError "reflectlite.Value.IsNil" 0) ReflectliteValue.isNil #[.agg #[.pointer (some ⟨12, 152, none⟩), .pointer (some a), .int .u64 150]]).run Tryz.prog W = .ok (.bool false) W := by
  rw [rlm]
  simp only [Sem.run_bind, as_parts27, Result.andThen]
  simp [ReflectliteValue.isNil, loadVar, isAgg, underlying, Tryz.underlying152, ha, Result.andThen]

theorem as_methodElem (h : Value) (w : World) : (Go.method 401 226 (.agg #[h]) "Elem").run Tryz.prog w = .ok (263, .agg #[h]) w := by kernel_rfl
theorem as_methodImplements (h : Value) (w : World) : (Go.method 401 226 (.agg #[h]) "Implements").run Tryz.prog w = .ok (264, .agg #[h]) w := by kernel_rfl
theorem as_methodAssignableTo (h : Value) (w : World) : (Go.method 401 226 (.agg #[h]) "AssignableTo").run Tryz.prog w = .ok (261, .agg #[h]) w := by kernel_rfl
theorem as_elem27 (w : World) : (ReflectliteType.method ReflectliteType.elem #[.agg #[.pointer (some ⟨12, 152, none⟩)]]).run Tryz.prog w = .ok (.iface 226 (.agg #[.pointer (some ⟨12, 32, none⟩)])) w := by kernel_rfl
theorem as_implements25 (w : World) : (ReflectliteType.relation "Implements" ReflectliteType.implements_ #[.agg #[.pointer (some ⟨12, 32, none⟩)], .iface 226 (.agg #[.pointer (some ⟨12, 36, none⟩)])]).run Tryz.prog w = .ok (.bool true) w := by kernel_rfl
theorem as_typeOf25 (v : Value) (w : World) : (ReflectliteType.typeOf #[.iface 32 v]).run Tryz.prog w = .ok (.iface 226 (.agg #[.pointer (some ⟨12, 32, none⟩)])) w := by kernel_rfl
theorem as_assignable25 (w : World) : (ReflectliteType.relation "AssignableTo" ReflectliteType.assignableTo #[.agg #[.pointer (some ⟨12, 32, none⟩)], .iface 226 (.agg #[.pointer (some ⟨12, 32, none⟩)])]).run Tryz.prog w = .ok (.bool true) w := by kernel_rfl
theorem as_valueOf25 (n : Int) (w : World) : (ReflectliteValue.unpack (.iface 32 (.int .i64 n))).run Tryz.prog w
    = .ok (.agg #[.pointer (some ⟨12, 32, none⟩), .pointer (some ⟨w.heap.size, 0, none⟩), .int .u64 130]) (w.alloc (.cells #[.int .i64 n] 32)) := by kernel_rfl

theorem as_elemOf27 (w : World) : (Rtype.elem? 152).run Tryz.prog w = .ok (some 32) w := by kernel_rfl
theorem as_mk25 (p : Addr) (w : World) : (ReflectliteValue.mk 32 p ReflectliteValue.flagAddr).run Tryz.prog w = .ok (.agg #[.pointer (some ⟨12, 32, none⟩), .pointer (some p), .int .u64 386]) w := by kernel_rfl
/-- (Value).Elem at the Value of a **p.E that is not nil: the Value of the *p.E variable that it points to, addressable. -/
theorem as_elemV27 (a p : Addr) (W : World) (ha : W.cell? a = some (.pointer (some p))) :
    (ReflectliteValue.method (ReflectliteValue.valueError "reflectlite.Value.Elem" 0) ReflectliteValue.elem #[.agg #[.pointer (some ⟨12, 152, none⟩), .pointer (some a), .int .u64 150]]).run Tryz.prog W
      = .ok (.agg #[.pointer (some ⟨12, 32, none⟩), .pointer (some p), .int .u64 386]) W := by
  rw [rlm]
  simp only [Sem.run_bind, as_parts27, Result.andThen]
  simp [ReflectliteValue.elem, loadVar, isAgg, underlying, Tryz.underlying152, ha, Result.andThen, as_elemOf27, as_mk25]
theorem rls (v x : Value) : ReflectliteValue.set #[v, x] = (do
    let (some (dst, a, fl), some (src, b, _)) := (← ReflectliteValue.parts v, ← ReflectliteValue.parts x)
      | unsupported (.noEntry "extern/(internal/reflectlite.Value).Set.zeroValue")
    if fl / ReflectliteValue.flagAddr % 2 == 0 then unsupported (.noEntry "extern/(internal/reflectlite.Value).Set.unaddressable")
    let val ← loadVar src b
    if ← Rtype.directlyAssignable dst src then storeVar dst a val
    else if ← Rtype.implements dst src then
      if (← Rtype.kind src) == 20 then
        match val with
        | .nilIface => unsupported (.noEntry "extern/reflectlite: a nil value of one interface type handed on as a value of another")
        | _ => storeVar dst a val
      else storeVar dst a (.iface src val)
    else panicString ("reflectlite.Set: value of type " ++ (← Rtype.spelt src) ++ " is not assignable to type " ++ (← Rtype.spelt dst))
    pure (.tuple #[])) := rfl
theorem as_parts25a (a : Addr) (w : World) : (ReflectliteValue.parts (.agg #[.pointer (some ⟨12, 32, none⟩), .pointer (some a), .int .u64 386])).run Tryz.prog w = .ok (some (32, a, 386)) w := by kernel_rfl
theorem as_parts25 (a : Addr) (w : World) : (ReflectliteValue.parts (.agg #[.pointer (some ⟨12, 32, none⟩), .pointer (some a), .int .u64 130])).run Tryz.prog w = .ok (some (32, a, 130)) w := by kernel_rfl
theorem as_direct25 (w : World) : (Rtype.directlyAssignable 32 32).run Tryz.prog w = .ok true w := by kernel_rfl
/-- (Value).Set: the *p.E variable at 'ta' gets what the Value's own variable 'b' holds. -/
theorem as_set25 (ta b : Addr) (n : Int) (old : Value) (W : World) (hb : W.cell? b = some (.int .i64 n)) (ht : W.cell? ta = some old) (hf : W.frozen? ta = false) :
    (ReflectliteValue.set #[.agg #[.pointer (some ⟨12, 32, none⟩), .pointer (some ta), .int .u64 386], .agg #[.pointer (some ⟨12, 32, none⟩), .pointer (some b), .int .u64 130]]).run Tryz.prog W
      = .ok (.tuple #[]) (W.setCell ta (.int .i64 n)) := by
  rw [rls]
  simp only [Sem.run_bind, as_parts25a, as_parts25, Result.andThen]
  simp [ReflectliteValue.flagAddr, loadVar, isAgg, underlying, Tryz.underlying32, hb, Result.andThen, as_direct25, storeVar, Value.cells, storeCells, Addr.add]
  rw [run_store Tryz.prog W ta _ _ (by rfl)]
  simp [ht, hf]

set_option maxHeartbeats 4000000 in
theorem as_hit (n : Int) (t : Addr) (old : Value) (w : World) (hg : w.cell? ⟨2, 0, none⟩ = some (.iface 226 (.agg #[.pointer (some ⟨12, 36, none⟩)]))) (ht0 : w.cell? t = some old) (hf0 : w.frozen? t = false) :
    Calls Tryz.prog 116 #[.iface 32 (.int .i64 n), .iface 152 (.pointer (some t))] w fun ev w' => ev = .returned (.bool true) ∧ w' = ((((w.alloc (.cells #[.pointer (some t)] 152)).alloc (.cells #[.pointer (some ⟨12, 152, none⟩), .pointer (some ⟨w.heap.size, 0, none⟩), .int .u64 150] 190)).alloc (.cells #[.pointer (some ⟨12, 152, none⟩), .pointer (some ⟨w.heap.size, 0, none⟩), .int .u64 150] 190)).alloc (.cells #[.int .i64 n] 32)).setCell t (.int .i64 n) := by
  have h6 := @run_callFunc_extern Tryz.prog 160 _ (fun args => ReflectliteValue.unpack (args.getD 0 (.tuple #[]))) Tryz.func160 (by kernel_rfl) (by kernel_rfl) (by kernel_rfl) (by kernel_rfl)
  have h7 := @run_callFunc_extern Tryz.prog 161 _ (ReflectliteValue.methodAny (ReflectliteValue.valueError "reflectlite.Value.Type" 0) (fun t _ _ _ => ReflectliteType.toType t)) Tryz.func161 (by kernel_rfl) (by kernel_rfl) (by kernel_rfl) (by kernel_rfl)
  have h8 := @run_callFunc_extern Tryz.prog 162 _ (ReflectliteValue.method (ReflectliteValue.valueError "reflectlite.Value.IsNil" 0) ReflectliteValue.isNil) Tryz.func162 (by kernel_rfl) (by kernel_rfl) (by kernel_rfl) (by kernel_rfl)
  have h27 := @run_callFunc_extern Tryz.prog 247 _ (ReflectliteType.abiMethod fun t => do pure (.int .u8 (← Rtype.kind t))) Tryz.func247 (by kernel_rfl) (by kernel_rfl) (by kernel_rfl) (by kernel_rfl)
  have h37 := @run_callFunc_extern Tryz.prog 263 _ (ReflectliteType.method ReflectliteType.elem) Tryz.func263 (by kernel_rfl) (by kernel_rfl) (by kernel_rfl) (by kernel_rfl)
  have h38 := @run_callFunc_extern Tryz.prog 264 _ (ReflectliteType.relation "Implements" ReflectliteType.implements_) Tryz.func264 (by kernel_rfl) (by kernel_rfl) (by kernel_rfl) (by kernel_rfl)
  have h10 := @run_callFunc_extern Tryz.prog 195 _ ReflectliteType.typeOf Tryz.func195 (by kernel_rfl) (by kernel_rfl) (by kernel_rfl) (by kernel_rfl)
  have h35 := @run_callFunc_extern Tryz.prog 261 _ (ReflectliteType.relation "AssignableTo" ReflectliteType.assignableTo) Tryz.func261 (by kernel_rfl) (by kernel_rfl) (by kernel_rfl) (by kernel_rfl)
  have h11 := @run_callFunc_extern Tryz.prog 196 _ (ReflectliteValue.method (ReflectliteValue.valueError "reflectlite.Value.Elem" 0) ReflectliteValue.elem) Tryz.func196 (by kernel_rfl) (by kernel_rfl) (by kernel_rfl) (by kernel_rfl)
  have h12 := @run_callFunc_extern Tryz.prog 197 _ ReflectliteValue.set Tryz.func197 (by kernel_rfl) (by kernel_rfl) (by kernel_rfl) (by kernel_rfl)
  have tO := as_typeOf25
  have mA := as_methodAssignableTo
  have a25 := as_assignable25
  have v25 := as_valueOf25
  have f6 := as_valueOf27
  have f7 := as_type27
  have mK := as_methodKind
  have mE := as_methodElem
  have mI := as_methodImplements
  have k27 := as_kind27
  have k25 := as_kind25
  have e27 := as_elem27
  have i25 := as_implements25
  have n8 := as_isNil27 ⟨w.heap.size, 0, none⟩ t ((w.alloc (.cells #[.pointer (some t)] 152)).alloc (.cells #[.pointer (some ⟨12, 152, none⟩), .pointer (some ⟨w.heap.size, 0, none⟩), .int .u64 150] 190)) (by simp)
  have hlt : 2 < w.heap.size := cell_lt hg
  have hg2 : ((w.alloc (.cells #[.pointer (some t)] 152)).alloc (.cells #[.pointer (some ⟨12, 152, none⟩), .pointer (some ⟨w.heap.size, 0, none⟩), .int .u64 150] 190)).cell? ⟨2, 0, none⟩ = some (.iface 226 (.agg #[.pointer (some ⟨12, 36, none⟩)])) := by
    rw [World.cell?_alloc_lt _ _ ⟨2, 0, none⟩ (by simp; omega), World.cell?_alloc_lt _ _ ⟨2, 0, none⟩ hlt]; exact hg
  have htl : t.block < w.heap.size := by
    rcases Nat.lt_or_ge t.block w.heap.size with h | h
    · exact h
    · simp [World.cell?, Array.getElem?_eq_none h] at ht0
  have el := as_elemV27 ⟨w.heap.size, 0, none⟩ t (((w.alloc (.cells #[.pointer (some t)] 152)).alloc (.cells #[.pointer (some ⟨12, 152, none⟩), .pointer (some ⟨w.heap.size, 0, none⟩), .int .u64 150] 190)).alloc (.cells #[.pointer (some ⟨12, 152, none⟩), .pointer (some ⟨w.heap.size, 0, none⟩), .int .u64 150] 190)) (by rw [World.cell?_alloc_lt _ _ ⟨w.heap.size, 0, none⟩ (by simp; omega)]; simp)
  have st := as_set25 t ⟨w.heap.size + 1 + 1 + 1, 0, none⟩ n old ((((w.alloc (.cells #[.pointer (some t)] 152)).alloc (.cells #[.pointer (some ⟨12, 152, none⟩), .pointer (some ⟨w.heap.size, 0, none⟩), .int .u64 150] 190)).alloc (.cells #[.pointer (some ⟨12, 152, none⟩), .pointer (some ⟨w.heap.size, 0, none⟩), .int .u64 150] 190)).alloc (.cells #[.int .i64 n] 32))
    (by rw [World.cell?_alloc_at _ _ _ _ (by simp)]; rfl)
    (by rw [World.cell?_alloc_lt _ _ t (by simp; omega), World.cell?_alloc_lt _ _ t (by simp; omega), World.cell?_alloc_lt _ _ t (by simp; omega), World.cell?_alloc_lt _ _ t htl]; exact ht0)
    (by rw [World.frozen?_alloc_old _ _ t (by simp; omega), World.frozen?_alloc_old _ _ t (by simp; omega), World.frozen?_alloc_old _ _ t (by simp; omega), World.frozen?_alloc_old _ _ t (Nat.ne_of_lt htl)]; exact hf0)
  go_enter Tryz.func116, Tryz.ntmps116
  go_wp2
  refine wp_loop_rounds 1 ?_
  rw [rounds_succ]
  go_wp2
  go_ret
  exact ⟨rfl, rfl⟩
end Go.Proofs.YtodbbfgkclkpgaaGreatDoor

namespace Go.Proofs.YtodbbfgkclkpgaaGreatDoor
open Go.RowKit

/-- errors.errorType is laid -/
def EnvE (w : World) : Prop := w.cell? ⟨2, 0, none⟩ = some (.iface 226 (.agg #[.pointer (some ⟨12, 36, none⟩)]))
theorem EnvE.below {w w' : World} (h : EnvE w) (hb : Below w.heap.size w w') : EnvE w' := kept hb h

set_option maxRecDepth 100000 in
theorem tell_errno (n : Int) (w : World) (hg : EnvE w) : Calls Tryz.prog 38 #[.iface 32 (.int .i64 n)] w fun e w' => e = .returned (.int .i64 n) ∧ Below w.heap.size w w' := by
  have hb0 := below_alloc w (.cells #[.int .i64 0] 32)
  have hg1 : EnvE _ := hg.below hb0
  have H := Lib.hid (as_hit n ⟨w.heap.size, 0, none⟩ (.int .i64 0) (w.alloc (.cells #[.int .i64 0] 32)) hg1 (by go_cell) (by simp [go_sem]))
  clear hg1
  go_enter Tryz.func38, Tryz.ntmps38
  go_wp2_with fail
  refine H.out.mono ?_
  rintro E w1 ⟨rfl, hw⟩
  have hc : w1.cell? ⟨w.heap.size, 0, none⟩ = some (.int .i64 n) := by
    rw [hw]
    go_cell
  have hB : Below w.heap.size w w1 := by
    rw [hw]
    go_grown
  clear hw
  go_wp2_with fail
  go_ret
  exact ⟨rfl, hB⟩

/-- an error of the program's: none, or an Errno -/
def errV (n : Int) : Value := if n = 0 then .nilIface else .iface 32 (.int .i64 n)

end Go.Proofs.YtodbbfgkclkpgaaGreatDoor
