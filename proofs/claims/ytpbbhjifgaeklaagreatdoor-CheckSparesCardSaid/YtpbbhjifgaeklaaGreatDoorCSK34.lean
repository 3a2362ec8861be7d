/- errors.As, api.Tell at an At that bears an Errno. · What the statements on versions share: short and read. · What judged makes: one that asks ahead for another; that other. · A struct of many cells, built, put into a slice, read behind a guard: each in one step. -/
import Derived.Test.YtpbbhjifgaeklaaGreatDoorCSK9
import Derived.Test.YtpbbhjifgaeklaaGreatDoorCSK5
import Derived.Test.YtpbbhjifgaeklaaGreatDoorCSK7
import Derived.Test.YtpbbhjifgaeklaaGreatDoorCSK33
import Derived.Test.YtpbbhjifgaeklaaGreatDoorCSK31
import Derived.Test.YtpbbhjifgaeklaaGreatDoorCSK10
import Derived.BigFrame
namespace Go.Proofs.YtpbbhjifgaeklaaGreatDoor
open Go Go.RowKit Go.Extern.Stop Go.Stop Go.Extern

theorem as_typeOfAt (v : Value) (w : World) : (ReflectliteType.typeOf #[.iface 133 v]).run Tryz.prog w = .ok (.iface 304 (.agg #[.pointer (some ⟨11, 133, none⟩)])) w := by kernel_rfl
theorem as_assignableAt (w : World) : (ReflectliteType.relation "AssignableTo" ReflectliteType.assignableTo #[.agg #[.pointer (some ⟨11, 133, none⟩)], .iface 304 (.agg #[.pointer (some ⟨11, 43, none⟩)])]).run Tryz.prog w = .ok (.bool false) w := by kernel_rfl
theorem unwrapAt (v : Value) (w : World) : (Instr.typeAssert (.iface 133 v) 31 225 true).run Tryz.prog w = .ok (.tuple #[.iface 133 v, .bool true]) w := by kernel_rfl
theorem noAsAt (v : Value) (w : World) : (Instr.typeAssert (.iface 133 v) 31 309 true).run Tryz.prog w = .ok (.tuple #[.nilIface, .bool false]) w :=
  run_typeAssert_lacksB Tryz.underlying309 (by kernel_rfl) (by kernel_rfl) v 31 w
theorem as_methodUnwrap (a : Addr) (w : World) : (Go.method 472 133 (.pointer (some a)) "Unwrap").run Tryz.prog w = .ok (340, .pointer (some a)) w := by kernel_rfl
set_option maxRecDepth 100000 in
set_option maxHeartbeats 4000000 in
theorem as_at (n : Int) (b : Nat) (t : Addr) (old : Value) (w : World) (hg : w.cell? ⟨2, 0, none⟩ = some (.iface 304 (.agg #[.pointer (some ⟨11, 31, none⟩)]))) (ht0 : w.cell? t = some old) (hf0 : w.frozen? t = false) (hbc : w.cell? ⟨b, 0, none⟩ = some (.int .i64 n)) :
    Calls Tryz.prog 161 #[.iface 133 (.pointer (some ⟨b, 0, none⟩)), .iface 200 (.pointer (some t))] w fun ev w' => ev = .returned (.bool true) ∧ w' = ((((w.alloc (.cells #[.pointer (some t)] 200)).alloc (.cells #[.pointer (some ⟨11, 200, none⟩), .pointer (some ⟨w.heap.size, 0, none⟩), .int .u64 150] 249)).alloc (.cells #[.pointer (some ⟨11, 200, none⟩), .pointer (some ⟨w.heap.size, 0, none⟩), .int .u64 150] 249)).alloc (.cells #[.int .i64 n] 43)).setCell t (.int .i64 n) := by
  have h6 := @run_callFunc_extern Tryz.prog 223 _ (fun args => ReflectliteValue.unpack (args.getD 0 (.tuple #[]))) Tryz.func223 (by kernel_rfl) (by kernel_rfl) (by kernel_rfl) (by kernel_rfl)
  have h7 := @run_callFunc_extern Tryz.prog 224 _ (ReflectliteValue.methodAny (ReflectliteValue.valueError "reflectlite.Value.Type" 0) (fun t _ _ _ => ReflectliteType.toType t)) Tryz.func224 (by kernel_rfl) (by kernel_rfl) (by kernel_rfl) (by kernel_rfl)
  have h8 := @run_callFunc_extern Tryz.prog 225 _ (ReflectliteValue.method (ReflectliteValue.valueError "reflectlite.Value.IsNil" 0) ReflectliteValue.isNil) Tryz.func225 (by kernel_rfl) (by kernel_rfl) (by kernel_rfl) (by kernel_rfl)
  have h27 := @run_callFunc_extern Tryz.prog 334 _ (ReflectliteType.abiMethod fun t => do pure (.int .u8 (← Rtype.kind t))) Tryz.func334 (by kernel_rfl) (by kernel_rfl) (by kernel_rfl) (by kernel_rfl)
  have h37 := @run_callFunc_extern Tryz.prog 351 _ (ReflectliteType.method ReflectliteType.elem) Tryz.func351 (by kernel_rfl) (by kernel_rfl) (by kernel_rfl) (by kernel_rfl)
  have h38 := @run_callFunc_extern Tryz.prog 352 _ (ReflectliteType.relation "Implements" ReflectliteType.implements_) Tryz.func352 (by kernel_rfl) (by kernel_rfl) (by kernel_rfl) (by kernel_rfl)
  have h10 := @run_callFunc_extern Tryz.prog 281 _ ReflectliteType.typeOf Tryz.func281 (by kernel_rfl) (by kernel_rfl) (by kernel_rfl) (by kernel_rfl)
  have h35 := @run_callFunc_extern Tryz.prog 349 _ (ReflectliteType.relation "AssignableTo" ReflectliteType.assignableTo) Tryz.func349 (by kernel_rfl) (by kernel_rfl) (by kernel_rfl) (by kernel_rfl)
  have h11 := @run_callFunc_extern Tryz.prog 282 _ (ReflectliteValue.method (ReflectliteValue.valueError "reflectlite.Value.Elem" 0) ReflectliteValue.elem) Tryz.func282 (by kernel_rfl) (by kernel_rfl) (by kernel_rfl) (by kernel_rfl)
  have h12 := @run_callFunc_extern Tryz.prog 283 _ ReflectliteValue.set Tryz.func283 (by kernel_rfl) (by kernel_rfl) (by kernel_rfl) (by kernel_rfl)
  have tO := as_typeOf25
  have mA := as_methodAssignableTo
  have a25 := as_assignable25
  have v25 := as_valueOf25
  have f6 := as_valueOf27
  have f7 := as_type27
  have mK := as_methodKind
  have mE := as_methodElem
  have mI := as_methodImplements
  have k27 := as_kind27
  have k25 := as_kind25
  have e27 := as_elem27
  have i25 := as_implements25
  have n8 := as_isNil27 ⟨w.heap.size, 0, none⟩ t ((w.alloc (.cells #[.pointer (some t)] 200)).alloc (.cells #[.pointer (some ⟨11, 200, none⟩), .pointer (some ⟨w.heap.size, 0, none⟩), .int .u64 150] 249)) (by simp)
  have hlt : 2 < w.heap.size := cell_lt hg
  have hg2 : ((w.alloc (.cells #[.pointer (some t)] 200)).alloc (.cells #[.pointer (some ⟨11, 200, none⟩), .pointer (some ⟨w.heap.size, 0, none⟩), .int .u64 150] 249)).cell? ⟨2, 0, none⟩ = some (.iface 304 (.agg #[.pointer (some ⟨11, 31, none⟩)])) := by
    rw [World.cell?_alloc_lt _ _ ⟨2, 0, none⟩ (by simp; omega), World.cell?_alloc_lt _ _ ⟨2, 0, none⟩ hlt]; exact hg
  have htl : t.block < w.heap.size := by
    rcases Nat.lt_or_ge t.block w.heap.size with h | h
    · exact h
    · simp [World.cell?, Array.getElem?_eq_none h] at ht0
  have el := as_elemV27 ⟨w.heap.size, 0, none⟩ t (((w.alloc (.cells #[.pointer (some t)] 200)).alloc (.cells #[.pointer (some ⟨11, 200, none⟩), .pointer (some ⟨w.heap.size, 0, none⟩), .int .u64 150] 249)).alloc (.cells #[.pointer (some ⟨11, 200, none⟩), .pointer (some ⟨w.heap.size, 0, none⟩), .int .u64 150] 249)) (by rw [World.cell?_alloc_lt _ _ ⟨w.heap.size, 0, none⟩ (by simp; omega)]; simp)
  have st := as_set25 t ⟨w.heap.size + 1 + 1 + 1, 0, none⟩ n old ((((w.alloc (.cells #[.pointer (some t)] 200)).alloc (.cells #[.pointer (some ⟨11, 200, none⟩), .pointer (some ⟨w.heap.size, 0, none⟩), .int .u64 150] 249)).alloc (.cells #[.pointer (some ⟨11, 200, none⟩), .pointer (some ⟨w.heap.size, 0, none⟩), .int .u64 150] 249)).alloc (.cells #[.int .i64 n] 43))
    (by rw [World.cell?_alloc_at _ _ _ _ (by simp)]; rfl)
    (by rw [World.cell?_alloc_lt _ _ t (by simp; omega), World.cell?_alloc_lt _ _ t (by simp; omega), World.cell?_alloc_lt _ _ t (by simp; omega), World.cell?_alloc_lt _ _ t htl]; exact ht0)
    (by rw [World.frozen?_alloc_old _ _ t (by simp; omega), World.frozen?_alloc_old _ _ t (by simp; omega), World.frozen?_alloc_old _ _ t (by simp; omega), World.frozen?_alloc_old _ _ t (Nat.ne_of_lt htl)]; exact hf0)
  have tA := as_typeOfAt
  have aA := as_assignableAt
  have nA := noAsAt
  have uA := unwrapAt
  have mU := as_methodUnwrap
  have hltb : b < w.heap.size := cell_lt hbc
  have hb1 : (((w.alloc (.cells #[.pointer (some t)] 200)).alloc (.cells #[.pointer (some ⟨11, 200, none⟩), .pointer (some ⟨w.heap.size, 0, none⟩), .int .u64 150] 249)).alloc (.cells #[.pointer (some ⟨11, 200, none⟩), .pointer (some ⟨w.heap.size, 0, none⟩), .int .u64 150] 249)).cell? ⟨b, 0, none⟩ = some (.int .i64 n) := by
    rw [World.cell?_alloc_lt _ _ ⟨b, 0, none⟩ (by simp; omega), World.cell?_alloc_lt _ _ ⟨b, 0, none⟩ (by simp; omega), World.cell?_alloc_lt _ _ ⟨b, 0, none⟩ hltb]; exact hbc
  go_enter Tryz.func161, Tryz.ntmps161
  go_wp2
  refine wp_loop_rounds 2 ?_
  rw [rounds_succ]
  go_wp2
  rw [rounds_succ]
  go_wp2
  go_ret
  exact ⟨rfl, rfl⟩

set_option maxRecDepth 100000 in
theorem tell_at (n : Int) (b : Nat) (w : World) (hg : EnvE w) (hbc : w.cell? ⟨b, 0, none⟩ = some (.int .i64 n)) : Calls Tryz.prog 95 #[.iface 133 (.pointer (some ⟨b, 0, none⟩))] w fun e w' => e = .returned (.int .i64 n) ∧ Below w.heap.size w w' := by
  have hb0 := below_alloc w (.cells #[.int .i64 0] 43)
  have hg1 : EnvE _ := hg.below hb0
  have H := Lib.hid (as_at n b ⟨w.heap.size, 0, none⟩ (.int .i64 0) (w.alloc (.cells #[.int .i64 0] 43)) hg1 (by go_cell) (by simp [go_sem]) (kept hb0 hbc))
  clear hg1 hbc
  go_enter Tryz.func95, Tryz.ntmps95
  go_wp2_with fail
  refine H.out.mono ?_
  rintro E w1 ⟨rfl, hw⟩
  have hc : w1.cell? ⟨w.heap.size, 0, none⟩ = some (.int .i64 n) := by
    rw [hw]
    go_cell
  have hB : Below w.heap.size w w1 := by
    rw [hw]
    go_grown
  clear hw
  go_wp2_with fail
  go_ret
  exact ⟨rfl, hB⟩
end Go.Proofs.YtpbbhjifgaeklaaGreatDoor

namespace Go.Proofs.YtpbbhjifgaeklaaGreatDoor
open Go.RowKit

/-- the version that a text is; none: no letter of one -/
def readP (l : List UInt8) : Int × List UInt8 × List UInt8 := (VP.parseP l).getD (0, [], [])

def ReadIs (s : ByteArray) (w : World) (E : Ending) (w' : World) : Prop :=
  Below w.heap.size w w' ∧ ∃ (e : Int) (u r : ByteArray), readP s.data.toList = (e, u.data.toList, r.data.toList) ∧ E = .returned (.agg #[.int .i64 e, .string u, .string r])

set_option maxRecDepth 100000 in
theorem read_calls (s : ByteArray) (w : World) (hE : Env w) : Calls Tryz.prog 27 #[.string s] w (ReadIs s w) := by
  have hb0 := below_alloc w (.cells #[.int .i64 0, .string ⟨#[]⟩, .string ⟨#[]⟩] 23)
  have hE1 := hE.below hb0
  clear hE
  go_enter Tryz.func27, Tryz.ntmps27
  go_wp2_with fail
  refine (parse_calls s _ hE1).mono ?_
  rintro E w1 ⟨hb, hP⟩
  have hsz : w.heap.size < w1.heap.size := by have := hb.size; simp at this; omega
  have k0 := kept hb (p := ⟨w.heap.size, 0, none⟩) (v := .int .i64 0) (by go_cell)
  have k1 := kept hb (p := ⟨w.heap.size, 1, none⟩) (v := .string ⟨#[]⟩) (by go_cell)
  have k2 := kept hb (p := ⟨w.heap.size, 2, none⟩) (v := .string ⟨#[]⟩) (by go_cell)
  have f0 := keptf hb (p := ⟨w.heap.size, 0, none⟩) (by simp) (by simp [go_sem])
  have f1 := keptf hb (p := ⟨w.heap.size, 1, none⟩) (by simp) (by simp [go_sem])
  have f2 := keptf hb (p := ⟨w.heap.size, 2, none⟩) (by simp) (by simp [go_sem])
  have hB := step_below hb0 hb
  clear hb hb0 hE1
  rcases hP with ⟨hp, rfl⟩ | ⟨e, u, r, hp, rfl⟩
  · have HP := Lib.hid hp
    clear hp
    unfold noVersion
    go_wp2_with fail
    exact bodyPost_ret (v := .agg #[.int .i64 0, .string ⟨#[]⟩, .string ⟨#[]⟩]) (by simp [results, Tryz.results27, go_sem, World.cell?_alloc_lt, hsz, k0, k1, k2]) rfl ⟨by go_grown, 0, ⟨#[]⟩, ⟨#[]⟩, by unfold readP; rw [HP.out]; rfl, rfl⟩
  · have HP := Lib.hid hp
    clear hp
    go_wp2_with fail
    exact bodyPost_ret (v := .agg #[.int .i64 e, .string u, .string r]) (by simp [results, Tryz.results27, go_sem, World.cell?_alloc_lt, hsz, k0, k1, k2]) rfl ⟨by go_grown, e, u, r, by unfold readP; rw [HP.out]; rfl, rfl⟩

end Go.Proofs.YtpbbhjifgaeklaaGreatDoor

namespace Go.Proofs.YtpbbhjifgaeklaaGreatDoor
open Go Go.RowKit

def tbb : Tv := ⟨⟨#[98, 98]⟩, 0, 0, ⟨#[]⟩, ⟨#[]⟩⟩
def pJ (e : Int) (u r : ByteArray) : Pv := ⟨⟨#[97, 97]⟩, e, u, r, [], [[tbb]], [], [], [], [], [], [], []⟩
def qJ (e : Int) (u r : ByteArray) (e2 : Int) (u2 r2 : ByteArray) : Kv := ⟨7, e, u, r, false, ⟨⟨#[98, 98]⟩, e2, u2, r2, [], [], [], [], [], [], [], [], []⟩⟩
theorem read_one : readP [49] = (0, [49], []) := by rfl
theorem read_two : readP [50] = (0, [50], []) := by rfl
theorem ba_of {u : ByteArray} {l : List UInt8} (h : l = u.data.toList) : u.size = l.length := by rw [h]; rfl
theorem small_bb : tbb.small := ⟨by decide, by decide, by decide, by unfold Tv.ok; decide⟩
theorem ahead_small : ∀ x, x ∈ [[tbb]] → ∀ t, t ∈ x → Tv.small t := by
  intro x hx t ht
  rw [List.mem_singleton.1 hx] at ht
  rw [List.mem_singleton.1 ht]
  exact small_bb
theorem met_none : metB [[tbb]] [] = false := by rfl
theorem met_bb (e : Int) (u r : ByteArray) : metB [[tbb]] [⟨⟨#[98, 98]⟩, e, u, r, []⟩] = true := by
  unfold metB metX meetsB isB
  simp [tbb, VP.isOp]
theorem offers_q (e : Int) (u r : ByteArray) (e2 : Int) (u2 r2 : ByteArray) : offersT [qJ e u r e2 u2 r2] (worksI [qJ e u r e2 u2 r2]) 1 = [⟨⟨#[98, 98]⟩, e2, u2, r2, []⟩] := by rfl
theorem free_none {e : Int} {u r : ByteArray} (hu : u.size ≤ 1000) (hr : r.size ≤ 1000) : FreeU [] (pJ e u r) :=
  ⟨rfl, fun o h => by simp [offersT] at h, fun k h => (by cases h), fun k h => (by cases h), fun k h => (by cases h), ⟨hu, hr, fun t h => (by cases h)⟩,
   ahead_small,
   fun t h => (by cases h), fun t h => (by cases h), fun k h => (by cases h), fun k h => (by cases h), fun k h => (by cases h), fun k h => (by cases h), fun k h => (by cases h), fun k h => (by cases h)⟩
theorem free_q {e e1 e2 : Int} {u r u1 r1 u2 r2 : ByteArray} (hu : u.size ≤ 1000) (hr : r.size ≤ 1000) (hu2 : u2.size ≤ 1000) (hr2 : r2.size ≤ 1000) : FreeU [qJ e1 u1 r1 e2 u2 r2] (pJ e u r) := by
  have one : ∀ k, k ∈ [qJ e1 u1 r1 e2 u2 r2] → k = qJ e1 u1 r1 e2 u2 r2 := fun k h => List.mem_singleton.1 h
  refine ⟨?_, fun o h => ?_, fun k h => ?_, fun k h => ?_, fun k h => ?_, ⟨hu, hr, fun t h => (by cases h)⟩, ahead_small, fun t h => (by cases h), fun t h => (by cases h), fun k h t ht => ?_, fun k h t ht => ?_, fun k h => ?_, fun k h => ?_, fun k h => ?_, fun k h => ?_⟩
  · simp [heldP, qJ]
  · rw [show o = ⟨⟨#[98, 98]⟩, e2, u2, r2, []⟩ from List.mem_singleton.1 h]
    simp [pJ]
  · rw [one k h]
    simp [pJ, qJ]
  · rw [one k h]
    show (1 : Int) < 7
    decide
  · rw [one k h]
    exact ⟨hu2, hr2, fun t h => (by cases h)⟩
  · rw [one k h] at ht
    cases ht
  · rw [one k h] at ht
    cases ht
  · rw [one k h]
    simp [cmB, pJ]
  · rw [one k h]
    simp [cmB, qJ]
  · rw [one k h]
    simp [cmB, pJ]
  · rw [one k h]
    simp [cmB, qJ]
end Go.Proofs.YtpbbhjifgaeklaaGreatDoor

namespace Go.Proofs.YtpbbhjifgaeklaaGreatDoor
open Go Go.RowKit Go.BigFrame

section
variable {P : Program} {ops : Array Oper} {rest : List Oper} {o : Oper} {a : Act} {w : World} {Q : Exit → Act → World → Prop}
theorem wpList_build_is (hg : o.guard = none) (t : TypeId) (parts : Array (Nat × Operand)) (ho : o.op = .build t parts) (vs : List (Nat × Value)) (hv : (parts.map fun (i, x) => (i, a.eval x)).toList = vs)
    (cells : Array Value) (hc : P.built t vs = some cells) (h : wpList P ops Q rest (a.put o.dst (.agg cells)) w) : wpList P ops Q (o :: rest) a w :=
  wpList_build hg t parts ho (by rw [hv, hc]; rfl) (by rw [hv, hc]; exact h)
theorem wpList_buildSlice_is (hw : Region.wanted o (yielded ops a.tmps) = true) (t : TypeId) (n : Nat) (parts : Array (Nat × Operand)) (ho : o.op = .buildSlice t n parts) (vs : Array (Nat × Value)) (hv : (parts.map fun (i, x) => (i, a.eval x)) = vs)
    (v : Value) (w' : World) (hr : (Instr.buildSlice t n vs).run P w = .ok v w') (h : wpList P ops Q rest (a.put o.dst v) w') : wpList P ops Q (o :: rest) a w :=
  wpList_want hw fun K hK => by
    unfold Oper.wp execOp
    simp only [ho, Sem.run_bind, hv, hr, Result.andThen_ok]
    exact hK _ _ h
theorem wpList_load_midW {op : Oper} (hw : Region.wanted op (yielded ops a.tmps) = true) (ty : TypeId) (x : Operand) (ho : op.op = .load ty x)
    (b o : Nat) (hx : a.eval x = .pointer (some ⟨b, o, none⟩)) (cs : List Value) (d : TypeDesc) (hc : w.rangeAt b o cs)
    (hu : P.underlying ty = some d) (hd : d.isRow = true) (hi : (P.info? ty).map (·.size) = some cs.length)
    (h : wpList P ops Q rest (a.put op.dst (.agg cs.toArray)) w) : wpList P ops Q (op :: rest) a w :=
  wpList_want hw fun _ hK => wp_load_mid ty x ho b o hx cs d hc hu hd hi (hK _ _ h)
end
theorem slice_known (w : World) (x0 x1 x2 x3 x4 x5 x6 x7 x8 x9 x10 x11 x12 x13 x14 x15 x16 x17 x18 x19 : Value) : (Instr.buildSlice 73 1 #[(0, .agg #[x0, x1, x2, x3, x4, x5, x6, x7, x8, x9, x10, x11, x12, x13, x14, x15, x16, x17, x18, x19])]).run Tryz.prog w = .ok (.slice (some ⟨w.heap.size, 0, none⟩) 1 1) (w.alloc (.cells #[x0, x1, x2, x3, x4, x5, x6, x7, x8, x9, x10, x11, x12, x13, x14, x15, x16, x17, x18, x19] 79)) := by kernel_rfl
theorem built_known (x0 x1 x2 x3 x4 x5 x6 x7 x8 x9 x10 x11 x12 x13 x14 x15 x16 x17 x18 x19 : Value) : Tryz.prog.built 79 [(0, .agg #[x0, x1, x2, x3, x4, x5, x6]), (1, .agg #[x7, x8, x9, x10, x11, x12, x13, x14, x15, x16, x17, x18, x19])] = some #[x0, x1, x2, x3, x4, x5, x6, x7, x8, x9, x10, x11, x12, x13, x14, x15, x16, x17, x18, x19] := by kernel_rfl
theorem range_blk {T : TypeId} {W : World} {b : Nat} {l : List Value} (h : Blk T W b l.toArray) : W.rangeAt b 0 l := fun j u hj => by
  rw [Nat.zero_add]
  exact h.cell (by rw [List.getElem?_toArray]; exact hj)
theorem knowns_one {W : World} {b : Nat} {k : Kv} (h : KnownAt W b 0 k) : KnownsAt W (.slice (some ⟨b, 0, none⟩) 1 1) [k] := by
  refine ⟨_, 1, rfl, Nat.le_refl _, by simp, fun _ => ⟨b, 0, rfl, fun i q hq => ?_⟩⟩
  cases i with
  | zero =>
    injection hq with hq
    subst hq
    exact h
  | succ i => simp at hq
theorem knowns_nil (W : World) : KnownsAt W (.slice none 0 0) [] := ⟨none, 0, rfl, Nat.le_refl _, by simp, fun h => absurd rfl h⟩
end Go.Proofs.YtpbbhjifgaeklaaGreatDoor
