/- errors.As, api.Tell at an At that bears an Errno. · An error and where it is. · ShelfPlays' small functions: is, the closure. · ShelfPlays' sameTexts, at two slices that read alike. · What sameShelf asks both shelves for, and that the answers are alike. -/
import Derived.Test.YtofogjfemlhffaaGreatDoorSPK7
import Derived.Test.YtofogjfemlhffaaGreatDoorSPK33
import Derived.BigQuiet
namespace Go.Proofs.YtofogjfemlhffaaGreatDoor
open Go Go.RowKit Go.Extern.Stop Go.Stop Go.Extern

theorem as_typeOfAt (v : Value) (w : World) : (ReflectliteType.typeOf #[.iface 78 v]).run Tryz.prog w = .ok (.iface 173 (.agg #[.pointer (some ⟨8, 78, none⟩)])) w := by kernel_rfl
theorem as_assignableAt (w : World) : (ReflectliteType.relation "AssignableTo" ReflectliteType.assignableTo #[.agg #[.pointer (some ⟨8, 78, none⟩)], .iface 173 (.agg #[.pointer (some ⟨8, 33, none⟩)])]).run Tryz.prog w = .ok (.bool false) w := by kernel_rfl
theorem unwrapAt (v : Value) (w : World) : (Instr.typeAssert (.iface 78 v) 25 101 true).run Tryz.prog w = .ok (.tuple #[.iface 78 v, .bool true]) w := by kernel_rfl
theorem noAsAt (v : Value) (w : World) : (Instr.typeAssert (.iface 78 v) 25 178 true).run Tryz.prog w = .ok (.tuple #[.nilIface, .bool false]) w :=
  run_typeAssert_lacksB Tryz.underlying178 (by kernel_rfl) (by kernel_rfl) v 25 w
theorem as_methodUnwrap (a : Addr) (w : World) : (Go.method 352 78 (.pointer (some a)) "Unwrap").run Tryz.prog w = .ok (208, .pointer (some a)) w := by kernel_rfl
set_option maxRecDepth 100000 in
set_option maxHeartbeats 4000000 in
theorem as_at (n : Int) (b : Nat) (t : Addr) (old : Value) (w : World) (hg : w.cell? ⟨1, 0, none⟩ = some (.iface 173 (.agg #[.pointer (some ⟨8, 25, none⟩)]))) (ht0 : w.cell? t = some old) (hf0 : w.frozen? t = false) (hbc : w.cell? ⟨b, 0, none⟩ = some (.int .i64 n)) :
    Calls Tryz.prog 77 #[.iface 78 (.pointer (some ⟨b, 0, none⟩)), .iface 114 (.pointer (some t))] w fun ev w' => ev = .returned (.bool true) ∧ w' = ((((w.alloc (.cells #[.pointer (some t)] 114)).alloc (.cells #[.pointer (some ⟨8, 114, none⟩), .pointer (some ⟨w.heap.size, 0, none⟩), .int .u64 150] 142)).alloc (.cells #[.pointer (some ⟨8, 114, none⟩), .pointer (some ⟨w.heap.size, 0, none⟩), .int .u64 150] 142)).alloc (.cells #[.int .i64 n] 33)).setCell t (.int .i64 n) := by
  have h6 := @run_callFunc_extern Tryz.prog 108 _ (fun args => ReflectliteValue.unpack (args.getD 0 (.tuple #[]))) Tryz.func108 (by kernel_rfl) (by kernel_rfl) (by kernel_rfl) (by kernel_rfl)
  have h7 := @run_callFunc_extern Tryz.prog 109 _ (ReflectliteValue.methodAny (ReflectliteValue.valueError "reflectlite.Value.Type" 0) (fun t _ _ _ => ReflectliteType.toType t)) Tryz.func109 (by kernel_rfl) (by kernel_rfl) (by kernel_rfl) (by kernel_rfl)
  have h8 := @run_callFunc_extern Tryz.prog 110 _ (ReflectliteValue.method (ReflectliteValue.valueError "reflectlite.Value.IsNil" 0) ReflectliteValue.isNil) Tryz.func110 (by kernel_rfl) (by kernel_rfl) (by kernel_rfl) (by kernel_rfl)
  have h27 := @run_callFunc_extern Tryz.prog 202 _ (ReflectliteType.abiMethod fun t => do pure (.int .u8 (← Rtype.kind t))) Tryz.func202 (by kernel_rfl) (by kernel_rfl) (by kernel_rfl) (by kernel_rfl)
  have h37 := @run_callFunc_extern Tryz.prog 216 _ (ReflectliteType.method ReflectliteType.elem) Tryz.func216 (by kernel_rfl) (by kernel_rfl) (by kernel_rfl) (by kernel_rfl)
  have h38 := @run_callFunc_extern Tryz.prog 217 _ (ReflectliteType.relation "Implements" ReflectliteType.implements_) Tryz.func217 (by kernel_rfl) (by kernel_rfl) (by kernel_rfl) (by kernel_rfl)
  have h10 := @run_callFunc_extern Tryz.prog 141 _ ReflectliteType.typeOf Tryz.func141 (by kernel_rfl) (by kernel_rfl) (by kernel_rfl) (by kernel_rfl)
  have h35 := @run_callFunc_extern Tryz.prog 214 _ (ReflectliteType.relation "AssignableTo" ReflectliteType.assignableTo) Tryz.func214 (by kernel_rfl) (by kernel_rfl) (by kernel_rfl) (by kernel_rfl)
  have h11 := @run_callFunc_extern Tryz.prog 142 _ (ReflectliteValue.method (ReflectliteValue.valueError "reflectlite.Value.Elem" 0) ReflectliteValue.elem) Tryz.func142 (by kernel_rfl) (by kernel_rfl) (by kernel_rfl) (by kernel_rfl)
  have h12 := @run_callFunc_extern Tryz.prog 143 _ ReflectliteValue.set Tryz.func143 (by kernel_rfl) (by kernel_rfl) (by kernel_rfl) (by kernel_rfl)
  have tO := as_typeOf25
  have mA := as_methodAssignableTo
  have a25 := as_assignable25
  have v25 := as_valueOf25
  have f6 := as_valueOf27
  have f7 := as_type27
  have mK := as_methodKind
  have mE := as_methodElem
  have mI := as_methodImplements
  have k27 := as_kind27
  have k25 := as_kind25
  have e27 := as_elem27
  have i25 := as_implements25
  have n8 := as_isNil27 ⟨w.heap.size, 0, none⟩ t ((w.alloc (.cells #[.pointer (some t)] 114)).alloc (.cells #[.pointer (some ⟨8, 114, none⟩), .pointer (some ⟨w.heap.size, 0, none⟩), .int .u64 150] 142)) (by simp)
  have hlt : 1 < w.heap.size := cell_lt hg
  have hg2 : ((w.alloc (.cells #[.pointer (some t)] 114)).alloc (.cells #[.pointer (some ⟨8, 114, none⟩), .pointer (some ⟨w.heap.size, 0, none⟩), .int .u64 150] 142)).cell? ⟨1, 0, none⟩ = some (.iface 173 (.agg #[.pointer (some ⟨8, 25, none⟩)])) := by
    rw [World.cell?_alloc_lt _ _ ⟨1, 0, none⟩ (by simp; omega), World.cell?_alloc_lt _ _ ⟨1, 0, none⟩ hlt]; exact hg
  have htl : t.block < w.heap.size := by
    rcases Nat.lt_or_ge t.block w.heap.size with h | h
    · exact h
    · simp [World.cell?, Array.getElem?_eq_none h] at ht0
  have el := as_elemV27 ⟨w.heap.size, 0, none⟩ t (((w.alloc (.cells #[.pointer (some t)] 114)).alloc (.cells #[.pointer (some ⟨8, 114, none⟩), .pointer (some ⟨w.heap.size, 0, none⟩), .int .u64 150] 142)).alloc (.cells #[.pointer (some ⟨8, 114, none⟩), .pointer (some ⟨w.heap.size, 0, none⟩), .int .u64 150] 142)) (by rw [World.cell?_alloc_lt _ _ ⟨w.heap.size, 0, none⟩ (by simp; omega)]; simp)
  have st := as_set25 t ⟨w.heap.size + 1 + 1 + 1, 0, none⟩ n old ((((w.alloc (.cells #[.pointer (some t)] 114)).alloc (.cells #[.pointer (some ⟨8, 114, none⟩), .pointer (some ⟨w.heap.size, 0, none⟩), .int .u64 150] 142)).alloc (.cells #[.pointer (some ⟨8, 114, none⟩), .pointer (some ⟨w.heap.size, 0, none⟩), .int .u64 150] 142)).alloc (.cells #[.int .i64 n] 33))
    (by rw [World.cell?_alloc_at _ _ _ _ (by simp)]; rfl)
    (by rw [World.cell?_alloc_lt _ _ t (by simp; omega), World.cell?_alloc_lt _ _ t (by simp; omega), World.cell?_alloc_lt _ _ t (by simp; omega), World.cell?_alloc_lt _ _ t htl]; exact ht0)
    (by rw [World.frozen?_alloc_old _ _ t (by simp; omega), World.frozen?_alloc_old _ _ t (by simp; omega), World.frozen?_alloc_old _ _ t (by simp; omega), World.frozen?_alloc_old _ _ t (Nat.ne_of_lt htl)]; exact hf0)
  have tA := as_typeOfAt
  have aA := as_assignableAt
  have nA := noAsAt
  have uA := unwrapAt
  have mU := as_methodUnwrap
  have hltb : b < w.heap.size := cell_lt hbc
  have hb1 : (((w.alloc (.cells #[.pointer (some t)] 114)).alloc (.cells #[.pointer (some ⟨8, 114, none⟩), .pointer (some ⟨w.heap.size, 0, none⟩), .int .u64 150] 142)).alloc (.cells #[.pointer (some ⟨8, 114, none⟩), .pointer (some ⟨w.heap.size, 0, none⟩), .int .u64 150] 142)).cell? ⟨b, 0, none⟩ = some (.int .i64 n) := by
    rw [World.cell?_alloc_lt _ _ ⟨b, 0, none⟩ (by simp; omega), World.cell?_alloc_lt _ _ ⟨b, 0, none⟩ (by simp; omega), World.cell?_alloc_lt _ _ ⟨b, 0, none⟩ hltb]; exact hbc
  go_enter Tryz.func77, Tryz.ntmps77
  go_wp2
  refine wp_loop_rounds 2 ?_
  rw [rounds_succ]
  go_wp2
  rw [rounds_succ]
  go_wp2
  go_ret
  exact ⟨rfl, rfl⟩

set_option maxRecDepth 100000 in
theorem tell_at (n : Int) (b : Nat) (w : World) (hg : EnvE w) (hbc : w.cell? ⟨b, 0, none⟩ = some (.int .i64 n)) : Calls Tryz.prog 53 #[.iface 78 (.pointer (some ⟨b, 0, none⟩))] w fun e w' => e = .returned (.int .i64 n) ∧ Below w.heap.size w w' := by
  have hb0 := below_alloc w (.cells #[.int .i64 0] 33)
  have hg1 : EnvE _ := hg.below hb0
  have H := Lib.hid (as_at n b ⟨w.heap.size, 0, none⟩ (.int .i64 0) (w.alloc (.cells #[.int .i64 0] 33)) hg1 (by go_cell) (by simp [go_sem]) (kept hb0 hbc))
  clear hg1 hbc
  go_enter Tryz.func53, Tryz.ntmps53
  go_wp2_with fail
  refine H.out.mono ?_
  rintro E w1 ⟨rfl, hw⟩
  have hc : w1.cell? ⟨w.heap.size, 0, none⟩ = some (.int .i64 n) := by
    rw [hw]
    go_cell
  have hB : Below w.heap.size w w1 := by
    rw [hw]
    go_grown
  clear hw
  go_wp2_with fail
  go_ret
  exact ⟨rfl, hB⟩
end Go.Proofs.YtofogjfemlhffaaGreatDoor

namespace Go.Proofs.YtofogjfemlhffaaGreatDoor
open Go Go.RowKit

/-- an error and where it is -/
def FaultAt (w : World) (v : Value) (e p : Int) : Prop := (v = .nilIface ∧ e = 0 ∧ p = -1) ∨ (∃ n, v = .iface 33 (.int .i64 n) ∧ e = n ∧ p = -1) ∨ ∃ b, v = .iface 78 (.pointer (some ⟨b, 0, none⟩)) ∧ w.cell? ⟨b, 0, none⟩ = some (.int .i64 e) ∧ w.cell? ⟨b, 1, none⟩ = some (.int .i64 p)
theorem FaultAt.below {w w' : World} {v : Value} {e p : Int} (h : FaultAt w v e p) (hb : Below w.heap.size w w') : FaultAt w' v e p := by
  rcases h with h | h | ⟨b, h, h0, h1⟩
  · exact .inl h
  · exact .inr (.inl h)
  · exact .inr (.inr ⟨b, h, kept hb h0, kept hb h1⟩)
/-- a value of an error: none, or one -/
theorem FaultAt.iface {w : World} {v : Value} {e p : Int} (h : FaultAt w v e p) : v = .nilIface ∨ ∃ t u, v = .iface t u := by
  rcases h with ⟨h, _⟩ | ⟨n, h, _⟩ | ⟨b, h, _⟩
  · exact .inl h
  · exact .inr ⟨_, _, h⟩
  · exact .inr ⟨_, _, h⟩
end Go.Proofs.YtofogjfemlhffaaGreatDoor

namespace Go.Proofs.YtofogjfemlhffaaGreatDoor
open Go Go.RowKit Go.Maps

theorem isAt (b : Nat) (w : World) : (Instr.typeAssert (.iface 78 (.pointer (some ⟨b, 0, none⟩))) 25 78 true).run Tryz.prog w = .ok (.tuple #[.pointer (some ⟨b, 0, none⟩), .bool true]) w := by kernel_rfl
set_option maxRecDepth 100000 in
theorem place_at (n p : Int) (b : Nat) (w : World) (hg : EnvE w) (h0 : w.cell? ⟨b, 0, none⟩ = some (.int .i64 n)) (h1 : w.cell? ⟨b, 1, none⟩ = some (.int .i64 p)) : Calls Tryz.prog 29 #[.iface 78 (.pointer (some ⟨b, 0, none⟩))] w fun e w' => e = .returned (.tuple #[.int .i64 n, .int .i64 p]) ∧ Below w.heap.size w w' := by
  have H := Lib.hid (tell_at n b w hg h0)
  have H1 := Lib.hid h1
  have ia := isAt b
  clear hg h0 h1
  go_enter Tryz.func29, Tryz.ntmps29
  go_wp2_with fail
  refine H.out.mono ?_
  rintro E w1 ⟨rfl, hB⟩
  have k1 := kept hB H1.out
  have HB := Lib.hid hB
  clear H H1 hB
  go_wp2_with fail
  refine wp_loop_rounds 1 ?_
  rw [rounds_succ]
  go_wp2_with fail
  go_quiet (fail)
  go_wp2_with fail
  go_ret2
  exact ⟨rfl, HB.out.trans ((below_drewN _ _ _).mono HB.out.size)⟩

theorem place_fault (v : Value) (e p : Int) (w : World) (hg : EnvE w) (h : FaultAt w v e p) : Calls Tryz.prog 29 #[v] w fun E w' => E = .returned (.tuple #[.int .i64 e, .int .i64 p]) ∧ Below w.heap.size w w' := by
  rcases h with ⟨rfl, rfl, rfl⟩ | ⟨n, rfl, rfl, rfl⟩ | ⟨b, rfl, h0, h1⟩
  · exact (place_nil w).mono fun E w' ⟨h1, h2⟩ => ⟨h1, h2 ▸ Below.refl _ _⟩
  · exact place_errno _ w hg
  · exact place_at e p b w hg h0 h1
set_option maxRecDepth 100000 in
theorem isF_calls (v : Value) (e p : Int) (w : World) (hg : EnvE w) (h : FaultAt w v e p) : Calls Tryz.prog 11 #[v, .agg #[.int .i64 e, .int .i64 p]] w (BoolIs true w) := by
  have hb0 := below_alloc w (.cells #[.int .i64 e, .int .i64 p] 54)
  have hx0 := blk_new 54 w #[.int .i64 e, .int .i64 p]
  have C := Lib.hid (place_fault v e p _ (hg.below hb0) (h.below hb0))
  have HB0 := Lib.hid hb0
  have HX0 := Lib.hid hx0
  clear hg h hb0 hx0
  go_enter Tryz.func11, Tryz.ntmps11
  go_wp2_with fail
  refine C.out.mono ?_
  rintro E w1 ⟨rfl, hb1⟩
  have k0 : w1.cell? ⟨w.heap.size, 0, none⟩ = some (.int .i64 e) := (HX0.out.keep hb1).cell rfl
  have k1 : w1.cell? ⟨w.heap.size, 1, none⟩ = some (.int .i64 p) := (HX0.out.keep hb1).cell rfl
  have HB1 := Lib.hid (HB0.out.trans (hb1.mono HB0.out.size))
  clear hb1 C HX0
  go_wp2_with fail
  go_ret
  exact ⟨rfl, HB1.out⟩

/-- what takes says -/
def takesB (t s : ByteArray) : Bool := decide (t = ⟨#[42]⟩) || decide (t = s)
set_option maxRecDepth 100000 in
theorem takes_calls (t s : ByteArray) (cq off : Nat) (w : World) (h : w.cell? ⟨cq, off + 14, none⟩ = some (.string t)) : Calls Tryz.prog 8 #[.string s, .pointer (some ⟨cq, off, none⟩)] w (BoolIs (takesB t s) w) := by
  obtain ⟨b1, hb1⟩ : ∃ b, decide (t = (⟨#[42]⟩ : ByteArray)) = b := ⟨_, rfl⟩
  obtain ⟨b2, hb2⟩ : ∃ b, decide (t = s) = b := ⟨_, rfl⟩
  have h1 : (t.toList == (⟨#[42]⟩ : ByteArray).toList) = b1 := by rw [← hb1]; exact name_eq t _
  have h2 : (t.toList == s.toList) = b2 := by rw [← hb2]; exact name_eq t s
  rw [show (⟨#[42]⟩ : ByteArray).toList = [42] from by rw [Lib.toList_data]] at h1
  have F : takesB t s = (b1 || b2) := by unfold takesB; rw [hb1, hb2]
  rw [F]
  clear F hb1 hb2
  cases b1 with
  | true =>
    go_enter Tryz.func8, Tryz.ntmps8
    go_wp2_with fail
    go_ret
    exact ⟨rfl, Below.refl _ _⟩
  | false =>
    go_enter Tryz.func8, Tryz.ntmps8
    go_wp2_with fail
    go_ret
    exact ⟨rfl, Below.refl _ _⟩
end Go.Proofs.YtofogjfemlhffaaGreatDoor

namespace Go.Proofs.YtofogjfemlhffaaGreatDoor
open Go Go.RowKit Go.Maps

set_option maxHeartbeats 2000000 in
set_option maxRecDepth 100000 in
theorem sameTexts_calls (v1 v2 : Value) (l : List ByteArray) (w : World) (h1 : StrsAt w v1 l) (h2 : StrsAt w v2 l) (hl : l.length ≤ 1000000) : Calls Tryz.prog 44 #[v1, v2] w (BoolIs true w) := by
  obtain ⟨A1, c1, rfl, _, hi1⟩ := strs_at h1
  obtain ⟨A2, c2, rfl, _, hi2⟩ := strs_at h2
  obtain ⟨n, hn⟩ : ∃ n, l.length = n := ⟨_, rfl⟩
  have HN := Lib.hid hn
  have HI1 := Lib.hid hi1
  have HI2 := Lib.hid hi2
  rw [hn] at hl ⊢
  clear h1 h2 hi1 hi2 hn
  go_enter Tryz.func44, Tryz.ntmps44
  go_wp2_with fail
  go_loopw [5] (fun i wr => ∃ k : Nat, k ≤ n ∧ i = .int .i64 k ∧ Hid (Below w.heap.size w wr)) (fun i _ => n - (intOf i).toNat)
  case atStart => exact ⟨0, Nat.zero_le _, rfl, Lib.hid (Below.refl _ _)⟩
  case round =>
    obtain ⟨k, hk, rfl, hB⟩ := hrel
    by_cases hlt : k < n
    · obtain ⟨q, hq⟩ : ∃ q, l[k]? = some q := ⟨l[k]'(by have := HN.out; omega), List.getElem?_eq_getElem _⟩
      obtain ⟨b1, o1, rfl, q1⟩ := HI1.out k q hq
      obtain ⟨b2, o2, rfl, q2⟩ := HI2.out k q hq
      replace q1 := kept hB.out q1
      replace q2 := kept hB.out q2
      have i1 : (k : Int) < n := by omega
      have i2 : (0 : Int) ≤ k := by omega
      have hqf : (q.toList == q.toList) = true := by simp
      clear hq
      go_wp2_with fail
      go_quiet (fail)
      clear q1 q2
      have HBD := Lib.hid (fun m => hB.out.trans (below_drewN w.heap.size wr m))
      go_wp2_with fail
      go_roundw
      case rel => first | exact ⟨k + 1, by omega, by go_num, Lib.hid (HBD.out _)⟩ | ((repeat apply Exists.intro); exact ⟨⟨k + 1, by omega, by go_num, Lib.hid (HBD.out _)⟩, rfl⟩)
      case measure => simp [intOf]; omega
    · obtain rfl : k = n := by omega
      go_wp2_with fail
      go_ret
      exact ⟨rfl, hB.out⟩
end Go.Proofs.YtofogjfemlhffaaGreatDoor

namespace Go.Proofs.YtofogjfemlhffaaGreatDoor
open Go Go.RowKit Go.Maps

/-- both shelves in memory, and alike -/
structure Both (w : World) (sh d r b0 b1 b2 : Nat) (D : Dk) (Wm Dm Sm : Fm) : Prop where
  e : Env w
  g : EnvE w
  sh : ShAt w sh d D
  ok : DkOk D
  fit : FitD 900000 D
  rs : RShAt w r b0 b1 b2 Wm Dm Sm
  rel : RelS D.now Wm Dm Sm
  len : Wm.length ≤ 1000000
section
variable {w W : World} {sh d r b0 b1 b2 : Nat} {D : Dk} {Wm Dm Sm : Fm}
theorem Both.below (h : Both w sh d r b0 b1 b2 D Wm Dm Sm) (hb : Below w.heap.size w W) : Both W sh d r b0 b1 b2 D Wm Dm Sm :=
  ⟨h.e.below hb, h.g.below hb, h.sh.keep hb, h.ok, h.fit, h.rs.keep hb, h.rel, h.len⟩
theorem Both.owner (h : Both w sh d r b0 b1 b2 D Wm Dm Sm) {n : ByteArray} (hn : n ∈ ownersM D.now) : n.size ≤ 60 := (h.rel.inv.small n hn).1
theorem Both.path (h : Both w sh d r b0 b1 b2 D Wm Dm Sm) {q n : ByteArray} (hq : getF Wm q = some n) : q.size ≤ 60 ∧ n.size ≤ 60 := by
  have h1 := (h.rel.ow n q).2 hq
  exact ⟨(path_no (h.rel.inv.path n q h1)).2.1, h.owner (pathsM_owner h1)⟩
theorem Both.sz (h : Both w sh d r b0 b1 b2 D Wm Dm Sm) {q n : ByteArray} (hq : getF Wm q = some n) : q.size ≤ maxLen ∧ n.size ≤ maxLen := by
  have := h.path hq
  unfold maxLen
  omega
theorem Both.rOwners (h : Both w sh d r b0 b1 b2 D Wm Dm Sm) : Calls Tryz.prog 24 #[.pointer (some ⟨r, 0, none⟩)] w (StrsIs (ownersM D.now) w) :=
  (rowners_calls r b0 b1 b2 Wm Dm Sm w h.rs h.len (fun _ _ hq => (h.sz hq).2)).mono fun _ _ ⟨_, q1, _, q3⟩ => (OwnersR.eq q1 h.rel.owners) ▸ q3
theorem Both.pOwners (h : Both w sh d r b0 b1 b2 D Wm Dm Sm) : Calls Tryz.prog 27 #[.pointer (some ⟨sh, 0, none⟩)] w (StrsIs (ownersM D.now) w) :=
  (owners_calls sh d D w h.sh h.ok).mono fun _ _ ⟨v, he, hu, hb⟩ => ⟨v, he, hu.1, hb⟩
theorem Both.rPaths (h : Both w sh d r b0 b1 b2 D Wm Dm Sm) (n : ByteArray) : Calls Tryz.prog 25 #[.pointer (some ⟨r, 0, none⟩), .string n] w (StrsIs (pathsR Wm n) w) := rpaths_calls r b0 b1 b2 Wm Dm Sm n w h.rs h.len
theorem Both.plen (h : Both w sh d r b0 b1 b2 D Wm Dm Sm) (n : ByteArray) : (pathsR Wm n).length ≤ 1000000 := by
  unfold pathsR
  rw [List.length_map]
  exact Nat.le_trans (List.length_filter_le _ _) h.len
theorem Both.pPaths (h : Both w sh d r b0 b1 b2 D Wm Dm Sm) (n : ByteArray) (hn : n.size ≤ 1000) : Calls Tryz.prog 28 #[.pointer (some ⟨sh, 0, none⟩), .string n] w (StrsIs (pathsR Wm n) w) :=
  (paths_row sh d D n w h.e h.sh (h.fit.mono (by omega)) hn).mono fun E w' ⟨v, he, hu, hb⟩ => ⟨v, he, by
    have e : pathsD D n = pathsR Wm n := h.rel.paths n
    rw [e] at hu
    exact (hu.strs (by have := h.plen n; omega)).1, hb⟩
theorem Both.sets (h : Both w sh d r b0 b1 b2 D Wm Dm Sm) (n : ByteArray) : settingsD D n = setsR Sm (pathsR Wm n) := by
  have e : pathsD D n = pathsR Wm n := h.rel.paths n
  unfold settingsD setsR
  rw [e]
  refine List.filter_congr fun q _ => ?_
  unfold noSet
  rw [h.rel.sp]
  cases getF Sm q <;> rfl
theorem Both.pSets (h : Both w sh d r b0 b1 b2 D Wm Dm Sm) (n : ByteArray) (hn : n.size ≤ 1000) : Calls Tryz.prog 45 #[.pointer (some ⟨sh, 0, none⟩), .string n] w (StrsIs (setsR Sm (pathsR Wm n)) w) :=
  (settings_calls sh d D n w h.e h.sh h.fit hn).mono fun _ _ ⟨v, he, hu, hb⟩ => ⟨v, he, (h.sets n) ▸ hu.1, hb⟩
theorem Both.rSets (h : Both w sh d r b0 b1 b2 D Wm Dm Sm) (n : ByteArray) : Calls Tryz.prog 46 #[.pointer (some ⟨r, 0, none⟩), .string n] w (StrsIs (setsR Sm (pathsR Wm n)) w) := rsets_calls r b0 b1 b2 Wm Dm Sm n w h.rs h.len (fun _ _ hq => (h.sz hq).1)
theorem Both.slen (h : Both w sh d r b0 b1 b2 D Wm Dm Sm) (n : ByteArray) : (setsR Sm (pathsR Wm n)).length ≤ 1000000 := Nat.le_trans (List.length_filter_le _ _) (h.plen n)
/-- whose a path is, and what lies there -/
theorem Both.pOwner (h : Both w sh d r b0 b1 b2 D Wm Dm Sm) (p : ByteArray) : Calls Tryz.prog 42 #[.pointer (some ⟨sh, 0, none⟩), .string p] w fun E w' => E = .returned (.string ((getF Wm p).getD ⟨#[]⟩)) ∧ Below w.heap.size w w' :=
  (owner_calls sh d D p w h.e h.sh h.ok (h.fit.mono (by omega))).mono fun E w' ⟨he, hb⟩ => ⟨by
    rw [he]
    have e : ownerD D p = (getF Wm p).getD ⟨#[]⟩ := by
      show ((ownersM D.now).find? fun n => hasB (pathsM D.now n) p).getD ⟨#[]⟩ = _
      rw [h.rel.owner p]
    rw [e], hb⟩
theorem Both.pRead (h : Both w sh d r b0 b1 b2 D Wm Dm Sm) (p : ByteArray) (hp : p.size ≤ 1000) : Calls Tryz.prog 47 #[.pointer (some ⟨sh, 0, none⟩), .string p] w fun E w' => E = .returned (match getF Dm p with | some s => .tuple #[.string s, .nilIface] | none => .tuple #[.string ⟨#[]⟩, .iface 33 (.int .i64 7)]) ∧ w = w' :=
  (shread_calls sh d D p w h.sh hp).mono fun E w' ⟨he, hb⟩ => ⟨by
    rw [he]
    unfold readV
    rw [h.rel.th]
    cases getF Dm p <;> rfl, hb⟩
end
end Go.Proofs.YtofogjfemlhffaaGreatDoor
