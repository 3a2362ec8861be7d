/- depend.Right: may what is asked for be. · depend.signs: the table of signs, as it lies. · errors.As at an Errno: what it does where the error is none, and where it is an Errno (after the kit's worked example of errors.As at a pointer). · Errors taken apart: api.Tell, plain.Place, and the statements' bare, of no error and of an Errno. · depend.Print: how what is asked for is written. -/
import Derived.Test.YtodbbfgkclkpgaaGreatDoorARC9
import Derived.Deep.RegionHeld3
import Derived.Deep.DeepCutAuto
import Derived.Test.YtodbbfgkclkpgaaGreatDoorARC3
import Derived.LaidEql
import Derived.Stop.Asserts
import Derived.RowKitTokens
import Derived.Test.YtodbbfgkclkpgaaGreatDoorARC8
import Derived.Maps.AppendAt
import Derived.OwnWalk
import Derived.Laws.AppendOwn
namespace Go.Proofs.YtodbbfgkclkpgaaGreatDoor
open Go.RowKit

set_option maxHeartbeats 1000000 in
set_option maxRecDepth 100000 in
theorem idxWrong_calls (v : Value) (ts : List Tv) (w : World) (hE : Env w) (h : TermsAt w v ts) (hs : ∀ t ∈ ts, t.small) :
    Calls Tryz.prog 178 #[v, .func (.func 140) #[] #[]] w (IdxIs (ts.any wrongT) w) := by
  obtain ⟨A, c, rfl, hc, hm, hr⟩ := h
  obtain ⟨len, hlen⟩ : ∃ len, ts.length = len := ⟨_, rfl⟩
  have HL := Lib.hid hlen
  have HS := Lib.hid hs
  have HR := Lib.hid hr
  rw [hlen] at hc hm ⊢
  clear hlen hr hs
  go_enter Tryz.func178, Tryz.ntmps178
  go_wp2_with fail
  go_loopw [8] (fun i wr => ∃ k : Nat, k ≤ len ∧ i = .int .i64 k ∧ Hid ((ts.take k).any wrongT = false) ∧ Below w.heap.size w wr) (fun i _ => len - (intOf i).toNat)
  case atStart => exact ⟨0, Nat.zero_le _, rfl, rfl, Below.refl _ _⟩
  case round =>
    obtain ⟨k, hk, rfl, hall, hB⟩ := hrel
    by_cases hlt : k < len
    · have hne : ts ≠ [] := by
        intro e
        have := HL.out
        rw [e] at this
        simp at this
        omega
      obtain ⟨t, ht⟩ : ∃ t, ts[k]? = some t := ⟨ts[k]'(by have := HL.out; omega), List.getElem?_eq_getElem _⟩
      obtain ⟨b, off, rfl, hi⟩ := HR.out hne
      obtain ⟨hT0, hok⟩ := hi k t ht
      clear hi hne
      have hT := hT0.below hB
      obtain ⟨c0, c1, c2, c3, c4⟩ := hT
      have hsm := HS.out t (List.mem_of_getElem? ht)
      have HT := Lib.hid ht
      have hE1 := hE.below hB
      have H := Lib.hid (wrong_calls t wr hE1 hsm)
      clear ht hT0 hok hsm hE1
      have hp : wrongT t = true ∨ wrongT t = false := by cases wrongT t <;> simp
      go_wp2_with fail
      refine H.out.mono ?_
      rintro E w1 ⟨rfl, hb⟩
      have hB := step_below hB hb
      clear hb c0 c1 c2 c3 c4
      rcases hp with hp | hp
      · have HP := Lib.hid hp
        have hp' : (!VP.rightT t.tm) = true := hp
        rw [hp']
        clear hp hp'
        go_wp2_with fail
        go_ret
        exact ⟨_, rfl, by rw [any_stop HT.out HP.out]; simp, hB⟩
      · have HP := Lib.hid hp
        have hp' : (!VP.rightT t.tm) = false := hp
        rw [hp']
        clear hp hp'
        go_wp2_with fail
        go_roundw
        case rel => exact ⟨k + 1, by omega, by go_num, Lib.hid (any_take_succ hall.out HT.out HP.out), hB⟩
        case measure => simp [intOf]; omega
    · obtain rfl : k = len := by omega
      go_wp2_with fail
      go_ret
      exact ⟨_, rfl, by have := hall.out; rw [← HL.out] at this; rw [any_done this]; simp, hB⟩

set_option maxRecDepth 100000 in
theorem hasWrong_calls (v : Value) (ts : List Tv) (w : World) (hE : Env w) (h : TermsAt w v ts) (hs : ∀ t ∈ ts, t.small) :
    Calls Tryz.prog 139 #[v, .func (.func 140) #[] #[]] w (BoolIs (ts.any wrongT) w) := by
  have H := Lib.hid (idxWrong_calls v ts w hE h hs)
  clear h hs hE
  go_enter Tryz.func139, Tryz.ntmps139
  go_wp2_with fail
  refine H.out.mono ?_
  rintro E w1 ⟨i, rfl, hi, hb⟩
  have HI := Lib.hid hi
  clear hi
  by_cases h0 : 0 ≤ i
  · go_wp2_with fail
    go_ret
    exact ⟨ret_bool (by rw [← HI.out]; simp [h0]), hb⟩
  · go_wp2_with fail
    go_ret
    exact ⟨ret_bool HI.out, hb⟩

set_option maxHeartbeats 1000000 in
set_option maxRecDepth 100000 in
theorem asked_calls (v : Value) (L : List (List Tv)) (w : World) (hE : Env w) (h : AskedAt w v L) (hs : ∀ x ∈ L, ∀ t ∈ x, t.small) (h40 : ∀ x ∈ L, x.length ≤ 1000) :
    Calls Tryz.prog 67 #[v] w (BoolIs (VP.askedP (tmL L)) w) := by
  have F := Lib.hid (asked_eq L)
  obtain ⟨A, c, rfl, hc, hm, hr⟩ := h
  obtain ⟨len, hlen⟩ : ∃ len, L.length = len := ⟨_, rfl⟩
  have HL := Lib.hid hlen
  have HS := Lib.hid hs
  have H40 := Lib.hid h40
  have HR := Lib.hid hr
  rw [hlen] at hc hm ⊢
  clear hlen hr hs h40
  go_enter Tryz.func67, Tryz.ntmps67
  go_wp2_with fail
  go_loopw [3, 8] (fun n i wr => ∃ k m : Nat, k ≤ len ∧ i = .int .i64 k ∧ n = .int .i64 m ∧ m ≤ 30 ∧ Hid (m = sumL (L.take k)) ∧ Hid ((L.take k).all goodL = true) ∧ Below w.heap.size w wr) (fun _ i _ => len - (intOf i).toNat)
  case atStart => exact ⟨0, 0, Nat.zero_le _, rfl, rfl, by omega, rfl, rfl, Below.refl _ _⟩
  case round =>
    obtain ⟨k, m, hk, rfl, rfl, hm30, hsum, hall, hB⟩ := hrel
    by_cases hlt : k < len
    · have hne : L ≠ [] := by
        intro e
        have := HL.out
        rw [e] at this
        simp at this
        omega
      obtain ⟨x, hx⟩ : ∃ x, L[k]? = some x := ⟨L[k]'(by have := HL.out; omega), List.getElem?_eq_getElem _⟩
      obtain ⟨b, off, rfl, hi⟩ := HR.out hne
      obtain ⟨vx, hc0, hT⟩ := hi k x hx
      clear hi hne
      have hT1 := hT.below hB
      have c0 := kept hB hc0
      have hsm := HS.out x (List.mem_of_getElem? hx)
      have HX := Lib.hid hx
      have hE1 := hE.below hB
      have H := Lib.hid (hasWrong_calls vx x wr hE1 hT1 hsm)
      have HN := Lib.hid (sumL_take_succ hx)
      have HN2 := Lib.hid (sumL_take_le L (k + 1))
      obtain ⟨A', c', rfl, hc', hm', _⟩ := hT1
      clear hx hc0 hT hsm hE1
      have hx1000 := H40.out x (List.mem_of_getElem? HX.out)
      obtain ⟨xl, hxl⟩ : ∃ xl, x.length = xl := ⟨_, rfl⟩
      have HXL := Lib.hid hxl
      rw [hxl] at H hc' hm' hx1000 c0
      clear hxl hm'
      by_cases hx0 : xl = 0
      · have HB : Hid (goodL x = false) := by
          have e : x = [] := List.eq_nil_of_length_eq_zero (HXL.out.trans hx0)
          unfold goodL
          rw [e]; exact rfl
        have hxb : ((xl : Int) == 0) = true := by rw [beq_iff_eq]; omega
        clear hx0
        go_wp2_with fail
        go_ret
        exact ⟨ret_bool (by rw [F.out, all_stop HX.out HB.out]; rfl), hB⟩
      · have hxb : ((xl : Int) == 0) = false := by rw [beq_eq_false_iff_ne]; omega
        have HNE : Hid (x.isEmpty = false) := by
          cases x with
          | nil => exact absurd HXL.out.symm hx0
          | cons _ _ => exact rfl
        clear hx0
        by_cases hn : 30 < m + xl
        · have hnb : decide ((30 : Int) < (m : Int) + (xl : Int)) = true := decide_eq_true (by omega)
          have hover : Hid (sumL L ≤ 30 → False) := fun h => by
            have h1 := HN.out
            have h2 := HN2.out
            have h3 := hsum.out
            have h4 := HXL.out
            omega
          go_wp2_with fail
          go_ret
          exact ⟨ret_bool (by rw [F.out, decide_eq_false (fun h => hover.out h)]; simp), hB⟩
        · have hnb : decide ((30 : Int) < (m : Int) + (xl : Int)) = false := decide_eq_false (by omega)
          have hp : x.any wrongT = true ∨ x.any wrongT = false := by cases x.any wrongT <;> simp
          go_wp2_with fail
          refine H.out.mono ?_
          rintro E w1 ⟨rfl, hb⟩
          have hB := step_below hB hb
          clear hb c0
          rcases hp with hp | hp
          · have HB : Hid (goodL x = false) := by unfold goodL; rw [hp]; simp; exact trivial
            rw [hp]
            clear hp
            go_wp2_with fail
            go_ret
            exact ⟨ret_bool (by rw [F.out, all_stop HX.out HB.out]; rfl), hB⟩
          · have HB : Hid (goodL x = true) := by unfold goodL; rw [hp, HNE.out]; exact rfl
            rw [hp]
            clear hp
            go_wp2_with fail
            go_roundw
            case rel => exact ⟨k + 1, m + xl, by omega, by go_num, by go_num, by omega, Lib.hid (by rw [HN.out, ← hsum.out, HXL.out]), Lib.hid (all_take_succ hall.out HX.out HB.out), hB⟩
            case measure => simp [intOf]; omega
    · obtain rfl : k = len := by omega
      go_wp2_with fail
      go_ret
      refine ⟨ret_bool ?_, hB⟩
      have h1 := hall.out
      have h2 := hsum.out
      rw [← HL.out] at h1
      rw [← HL.out, List.take_length] at h2
      rw [F.out, all_done h1, decide_eq_true (by omega)]
      rfl
end Go.Proofs.YtodbbfgkclkpgaaGreatDoor

namespace Go.Proofs.YtodbbfgkclkpgaaGreatDoor
open Go.RowKit

/-- the signs of what is asked of versions, as they lie -/
def signS (k : Nat) : ByteArray := ⟨(VP.signP (k : Int)).toArray⟩
def EnvS (w : World) : Prop := ∀ k, k < 6 → w.cell? ⟨3, k, none⟩ = some (.string (signS k))
theorem EnvS.below {w w' : World} (h : EnvS w) (hb : Below w.heap.size w w') : EnvS w' := fun k hk => kept hb (h k hk)

theorem arrLen : Tryz.prog.arrayLen 199 = 6 := by kernel_rfl
theorem arrSize (W : World) : (sizeOf (Tryz.prog.elem 199)).run Tryz.prog W = .ok 1 W := by kernel_rfl
theorem signs_at (W : World) (k : Nat) (h6 : k < 6) : (Instr.indexAt 199 (.pointer (some ⟨3, 0, none⟩)) (.int .i64 (k : Int))).run Tryz.prog W = .ok (.pointer (some ⟨3, k, none⟩)) W := by
  have h := run_indexAt_array (P := Tryz.prog) (w := W) 199 ⟨3, 0, none⟩ .i64 (k : Int) (by kernel_rfl)
  rw [arrLen, if_pos ⟨by omega, by omega⟩, arrSize] at h
  refine h.trans ?_
  show Result.ok (Value.pointer (some ((⟨3, 0, none⟩ : Addr).add (((k : Nat) : Int).toNat * 1)))) W = _
  rw [Int.toNat_natCast, Nat.mul_one, Go.WideShapes.add_plain, Nat.zero_add]

theorem signS_size (k : Nat) : (signS k).size ≤ 2 := by
  rw [size_eq_length]
  show (VP.signP (k : Int)).length ≤ 2
  unfold VP.signP
  (repeat' split) <;> simp
end Go.Proofs.YtodbbfgkclkpgaaGreatDoor

namespace Go.Proofs.YtodbbfgkclkpgaaGreatDoor
open Go.RowKit Go.Extern.Stop Go.Stop Go.Extern

/-! ### CLOSED FACTS ON THE MODEL's ENTRIES FOR internal/reflectlite, at this program's types: 25: *p.E · 27: **p.E · 23: error · 45: reflectlite's rtype · 1: how many package-level variables the dump has -/
theorem as_valueOf27 (t : Addr) (w : World) : (ReflectliteValue.unpack (.iface 152 (.pointer (some t)))).run Tryz.prog w
    = .ok (.agg #[.pointer (some ⟨12, 152, none⟩), .pointer (some ⟨w.heap.size, 0, none⟩), .int .u64 150]) (w.alloc (.cells #[.pointer (some t)] 152)) := by kernel_rfl
theorem as_type27 (a : Addr) (w : World) : (ReflectliteValue.methodAny (ReflectliteValue.valueError "reflectlite.Value.Type" 0) (fun t _ _ _ => ReflectliteType.toType t) #[.agg #[.pointer (some ⟨12, 152, none⟩), .pointer (some a), .int .u64 150]]).run Tryz.prog w
    = .ok (.iface 226 (.agg #[.pointer (some ⟨12, 152, none⟩)])) w := by kernel_rfl
theorem as_methodKind (h : Value) (w : World) : (Go.method 401 226 (.agg #[h]) "Kind").run Tryz.prog w = .ok (247, h) w := by kernel_rfl
theorem as_kind27 (w : World) : ((ReflectliteType.abiMethod fun t => (fun a : Nat => Value.int IntKind.u8 (a : Int)) <$> Rtype.kind t) #[.pointer (some ⟨12, 152, none⟩)]).run Tryz.prog w = .ok (.int .u8 22) w := by kernel_rfl
theorem as_kind25 (w : World) : ((ReflectliteType.abiMethod fun t => (fun a : Nat => Value.int IntKind.u8 (a : Int)) <$> Rtype.kind t) #[.pointer (some ⟨12, 32, none⟩)]).run Tryz.prog w = .ok (.int .u8 2) w := by kernel_rfl

/-! ### THE ENTRIES THAT READ OR WRITE MEMORY: laws with a premise on the cell (after Derived/Lib/ReflectliteSlice.lean's manner: each unfolding a lemma of its own, by rfl) -/
theorem rlm (z : Sem Value) (f : TypeId → Addr → Nat → Nat → Sem Value) (v : Value) :
    ReflectliteValue.method z f #[v] = (do match ← ReflectliteValue.parts v with | none => z | some (t, a, fl) => f t a fl (fl % 32)) := rfl
theorem as_parts27 (a : Addr) (w : World) : (ReflectliteValue.parts (.agg #[.pointer (some ⟨12, 152, none⟩), .pointer (some a), .int .u64 150])).run Tryz.prog w = .ok (some (152, a, 150)) w := by kernel_rfl
/-- (Value).IsNil at the Value of a **p.E that is not nil. -/
theorem as_isNil27 (a p : Addr) (W : World) (ha : W.cell? a = some (.pointer (some p))) :
    (ReflectliteValue.method (ReflectliteValue.valueError "reflectlite.Value.IsNil" 0) ReflectliteValue.isNil #[.agg #[.pointer (some ⟨12, 152, none⟩), .pointer (some a), .int .u64 150]]).run Tryz.prog W = .ok (.bool false) W := by
  rw [rlm]
  simp only [Sem.run_bind, as_parts27, Result.andThen]
  simp [ReflectliteValue.isNil, loadVar, isAgg, underlying, Tryz.underlying152, ha, Result.andThen]

theorem as_methodElem (h : Value) (w : World) : (Go.method 401 226 (.agg #[h]) "Elem").run Tryz.prog w = .ok (263, .agg #[h]) w := by kernel_rfl
theorem as_methodImplements (h : Value) (w : World) : (Go.method 401 226 (.agg #[h]) "Implements").run Tryz.prog w = .ok (264, .agg #[h]) w := by kernel_rfl
theorem as_methodAssignableTo (h : Value) (w : World) : (Go.method 401 226 (.agg #[h]) "AssignableTo").run Tryz.prog w = .ok (261, .agg #[h]) w := by kernel_rfl
theorem as_elem27 (w : World) : (ReflectliteType.method ReflectliteType.elem #[.agg #[.pointer (some ⟨12, 152, none⟩)]]).run Tryz.prog w = .ok (.iface 226 (.agg #[.pointer (some ⟨12, 32, none⟩)])) w := by kernel_rfl
theorem as_implements25 (w : World) : (ReflectliteType.relation "Implements" ReflectliteType.implements_ #[.agg #[.pointer (some ⟨12, 32, none⟩)], .iface 226 (.agg #[.pointer (some ⟨12, 36, none⟩)])]).run Tryz.prog w = .ok (.bool true) w := by kernel_rfl
theorem as_typeOf25 (v : Value) (w : World) : (ReflectliteType.typeOf #[.iface 32 v]).run Tryz.prog w = .ok (.iface 226 (.agg #[.pointer (some ⟨12, 32, none⟩)])) w := by kernel_rfl
theorem as_assignable25 (w : World) : (ReflectliteType.relation "AssignableTo" ReflectliteType.assignableTo #[.agg #[.pointer (some ⟨12, 32, none⟩)], .iface 226 (.agg #[.pointer (some ⟨12, 32, none⟩)])]).run Tryz.prog w = .ok (.bool true) w := by kernel_rfl
theorem as_valueOf25 (n : Int) (w : World) : (ReflectliteValue.unpack (.iface 32 (.int .i64 n))).run Tryz.prog w
    = .ok (.agg #[.pointer (some ⟨12, 32, none⟩), .pointer (some ⟨w.heap.size, 0, none⟩), .int .u64 130]) (w.alloc (.cells #[.int .i64 n] 32)) := by kernel_rfl

theorem as_elemOf27 (w : World) : (Rtype.elem? 152).run Tryz.prog w = .ok (some 32) w := by kernel_rfl
theorem as_mk25 (p : Addr) (w : World) : (ReflectliteValue.mk 32 p ReflectliteValue.flagAddr).run Tryz.prog w = .ok (.agg #[.pointer (some ⟨12, 32, none⟩), .pointer (some p), .int .u64 386]) w := by kernel_rfl
/-- (Value).Elem at the Value of a **p.E that is not nil: the Value of the *p.E variable that it points to, addressable. -/
theorem as_elemV27 (a p : Addr) (W : World) (ha : W.cell? a = some (.pointer (some p))) :
    (ReflectliteValue.method (ReflectliteValue.valueError "reflectlite.Value.Elem" 0) ReflectliteValue.elem #[.agg #[.pointer (some ⟨12, 152, none⟩), .pointer (some a), .int .u64 150]]).run Tryz.prog W
      = .ok (.agg #[.pointer (some ⟨12, 32, none⟩), .pointer (some p), .int .u64 386]) W := by
  rw [rlm]
  simp only [Sem.run_bind, as_parts27, Result.andThen]
  simp [ReflectliteValue.elem, loadVar, isAgg, underlying, Tryz.underlying152, ha, Result.andThen, as_elemOf27, as_mk25]
theorem rls (v x : Value) : ReflectliteValue.set #[v, x] = (do
    let (some (dst, a, fl), some (src, b, _)) := (← ReflectliteValue.parts v, ← ReflectliteValue.parts x)
      | unsupported (.noEntry "extern/(internal/reflectlite.Value).Set.zeroValue")
    if fl / ReflectliteValue.flagAddr % 2 == 0 then unsupported (.noEntry "extern/(internal/reflectlite.Value).Set.unaddressable")
    let val ← loadVar src b
    if ← Rtype.directlyAssignable dst src then storeVar dst a val
    else if ← Rtype.implements dst src then
      if (← Rtype.kind src) == 20 then
        match val with
        | .nilIface => unsupported (.noEntry "extern/reflectlite: a nil value of one interface type handed on as a value of another")
        | _ => storeVar dst a val
      else storeVar dst a (.iface src val)
    else panicString ("reflectlite.Set: value of type " ++ (← Rtype.spelt src) ++ " is not assignable to type " ++ (← Rtype.spelt dst))
    pure (.tuple #[])) := rfl
theorem as_parts25a (a : Addr) (w : World) : (ReflectliteValue.parts (.agg #[.pointer (some ⟨12, 32, none⟩), .pointer (some a), .int .u64 386])).run Tryz.prog w = .ok (some (32, a, 386)) w := by kernel_rfl
theorem as_parts25 (a : Addr) (w : World) : (ReflectliteValue.parts (.agg #[.pointer (some ⟨12, 32, none⟩), .pointer (some a), .int .u64 130])).run Tryz.prog w = .ok (some (32, a, 130)) w := by kernel_rfl
theorem as_direct25 (w : World) : (Rtype.directlyAssignable 32 32).run Tryz.prog w = .ok true w := by kernel_rfl
/-- (Value).Set: the *p.E variable at 'ta' gets what the Value's own variable 'b' holds. -/
theorem as_set25 (ta b : Addr) (n : Int) (old : Value) (W : World) (hb : W.cell? b = some (.int .i64 n)) (ht : W.cell? ta = some old) (hf : W.frozen? ta = false) :
    (ReflectliteValue.set #[.agg #[.pointer (some ⟨12, 32, none⟩), .pointer (some ta), .int .u64 386], .agg #[.pointer (some ⟨12, 32, none⟩), .pointer (some b), .int .u64 130]]).run Tryz.prog W
      = .ok (.tuple #[]) (W.setCell ta (.int .i64 n)) := by
  rw [rls]
  simp only [Sem.run_bind, as_parts25a, as_parts25, Result.andThen]
  simp [ReflectliteValue.flagAddr, loadVar, isAgg, underlying, Tryz.underlying32, hb, Result.andThen, as_direct25, storeVar, Value.cells, storeCells, Addr.add]
  rw [run_store Tryz.prog W ta _ _ (by rfl)]
  simp [ht, hf]

set_option maxHeartbeats 4000000 in
theorem as_hit (n : Int) (t : Addr) (old : Value) (w : World) (hg : w.cell? ⟨2, 0, none⟩ = some (.iface 226 (.agg #[.pointer (some ⟨12, 36, none⟩)]))) (ht0 : w.cell? t = some old) (hf0 : w.frozen? t = false) :
    Calls Tryz.prog 116 #[.iface 32 (.int .i64 n), .iface 152 (.pointer (some t))] w fun ev w' => ev = .returned (.bool true) ∧ w' = ((((w.alloc (.cells #[.pointer (some t)] 152)).alloc (.cells #[.pointer (some ⟨12, 152, none⟩), .pointer (some ⟨w.heap.size, 0, none⟩), .int .u64 150] 190)).alloc (.cells #[.pointer (some ⟨12, 152, none⟩), .pointer (some ⟨w.heap.size, 0, none⟩), .int .u64 150] 190)).alloc (.cells #[.int .i64 n] 32)).setCell t (.int .i64 n) := by
  have h6 := @run_callFunc_extern Tryz.prog 160 _ (fun args => ReflectliteValue.unpack (args.getD 0 (.tuple #[]))) Tryz.func160 (by kernel_rfl) (by kernel_rfl) (by kernel_rfl) (by kernel_rfl)
  have h7 := @run_callFunc_extern Tryz.prog 161 _ (ReflectliteValue.methodAny (ReflectliteValue.valueError "reflectlite.Value.Type" 0) (fun t _ _ _ => ReflectliteType.toType t)) Tryz.func161 (by kernel_rfl) (by kernel_rfl) (by kernel_rfl) (by kernel_rfl)
  have h8 := @run_callFunc_extern Tryz.prog 162 _ (ReflectliteValue.method (ReflectliteValue.valueError "reflectlite.Value.IsNil" 0) ReflectliteValue.isNil) Tryz.func162 (by kernel_rfl) (by kernel_rfl) (by kernel_rfl) (by kernel_rfl)
  have h27 := @run_callFunc_extern Tryz.prog 247 _ (ReflectliteType.abiMethod fun t => do pure (.int .u8 (← Rtype.kind t))) Tryz.func247 (by kernel_rfl) (by kernel_rfl) (by kernel_rfl) (by kernel_rfl)
  have h37 := @run_callFunc_extern Tryz.prog 263 _ (ReflectliteType.method ReflectliteType.elem) Tryz.func263 (by kernel_rfl) (by kernel_rfl) (by kernel_rfl) (by kernel_rfl)
  have h38 := @run_callFunc_extern Tryz.prog 264 _ (ReflectliteType.relation "Implements" ReflectliteType.implements_) Tryz.func264 (by kernel_rfl) (by kernel_rfl) (by kernel_rfl) (by kernel_rfl)
  have h10 := @run_callFunc_extern Tryz.prog 195 _ ReflectliteType.typeOf Tryz.func195 (by kernel_rfl) (by kernel_rfl) (by kernel_rfl) (by kernel_rfl)
  have h35 := @run_callFunc_extern Tryz.prog 261 _ (ReflectliteType.relation "AssignableTo" ReflectliteType.assignableTo) Tryz.func261 (by kernel_rfl) (by kernel_rfl) (by kernel_rfl) (by kernel_rfl)
  have h11 := @run_callFunc_extern Tryz.prog 196 _ (ReflectliteValue.method (ReflectliteValue.valueError "reflectlite.Value.Elem" 0) ReflectliteValue.elem) Tryz.func196 (by kernel_rfl) (by kernel_rfl) (by kernel_rfl) (by kernel_rfl)
  have h12 := @run_callFunc_extern Tryz.prog 197 _ ReflectliteValue.set Tryz.func197 (by kernel_rfl) (by kernel_rfl) (by kernel_rfl) (by kernel_rfl)
  have tO := as_typeOf25
  have mA := as_methodAssignableTo
  have a25 := as_assignable25
  have v25 := as_valueOf25
  have f6 := as_valueOf27
  have f7 := as_type27
  have mK := as_methodKind
  have mE := as_methodElem
  have mI := as_methodImplements
  have k27 := as_kind27
  have k25 := as_kind25
  have e27 := as_elem27
  have i25 := as_implements25
  have n8 := as_isNil27 ⟨w.heap.size, 0, none⟩ t ((w.alloc (.cells #[.pointer (some t)] 152)).alloc (.cells #[.pointer (some ⟨12, 152, none⟩), .pointer (some ⟨w.heap.size, 0, none⟩), .int .u64 150] 190)) (by simp)
  have hlt : 2 < w.heap.size := cell_lt hg
  have hg2 : ((w.alloc (.cells #[.pointer (some t)] 152)).alloc (.cells #[.pointer (some ⟨12, 152, none⟩), .pointer (some ⟨w.heap.size, 0, none⟩), .int .u64 150] 190)).cell? ⟨2, 0, none⟩ = some (.iface 226 (.agg #[.pointer (some ⟨12, 36, none⟩)])) := by
    rw [World.cell?_alloc_lt _ _ ⟨2, 0, none⟩ (by simp; omega), World.cell?_alloc_lt _ _ ⟨2, 0, none⟩ hlt]; exact hg
  have htl : t.block < w.heap.size := by
    rcases Nat.lt_or_ge t.block w.heap.size with h | h
    · exact h
    · simp [World.cell?, Array.getElem?_eq_none h] at ht0
  have el := as_elemV27 ⟨w.heap.size, 0, none⟩ t (((w.alloc (.cells #[.pointer (some t)] 152)).alloc (.cells #[.pointer (some ⟨12, 152, none⟩), .pointer (some ⟨w.heap.size, 0, none⟩), .int .u64 150] 190)).alloc (.cells #[.pointer (some ⟨12, 152, none⟩), .pointer (some ⟨w.heap.size, 0, none⟩), .int .u64 150] 190)) (by rw [World.cell?_alloc_lt _ _ ⟨w.heap.size, 0, none⟩ (by simp; omega)]; simp)
  have st := as_set25 t ⟨w.heap.size + 1 + 1 + 1, 0, none⟩ n old ((((w.alloc (.cells #[.pointer (some t)] 152)).alloc (.cells #[.pointer (some ⟨12, 152, none⟩), .pointer (some ⟨w.heap.size, 0, none⟩), .int .u64 150] 190)).alloc (.cells #[.pointer (some ⟨12, 152, none⟩), .pointer (some ⟨w.heap.size, 0, none⟩), .int .u64 150] 190)).alloc (.cells #[.int .i64 n] 32))
    (by rw [World.cell?_alloc_at _ _ _ _ (by simp)]; rfl)
    (by rw [World.cell?_alloc_lt _ _ t (by simp; omega), World.cell?_alloc_lt _ _ t (by simp; omega), World.cell?_alloc_lt _ _ t (by simp; omega), World.cell?_alloc_lt _ _ t htl]; exact ht0)
    (by rw [World.frozen?_alloc_old _ _ t (by simp; omega), World.frozen?_alloc_old _ _ t (by simp; omega), World.frozen?_alloc_old _ _ t (by simp; omega), World.frozen?_alloc_old _ _ t (Nat.ne_of_lt htl)]; exact hf0)
  go_enter Tryz.func116, Tryz.ntmps116
  go_wp2
  refine wp_loop_rounds 1 ?_
  rw [rounds_succ]
  go_wp2
  go_ret
  exact ⟨rfl, rfl⟩
end Go.Proofs.YtodbbfgkclkpgaaGreatDoor

namespace Go.Proofs.YtodbbfgkclkpgaaGreatDoor
open Go.RowKit

/-- errors.errorType is laid -/
def EnvE (w : World) : Prop := w.cell? ⟨2, 0, none⟩ = some (.iface 226 (.agg #[.pointer (some ⟨12, 36, none⟩)]))
theorem EnvE.below {w w' : World} (h : EnvE w) (hb : Below w.heap.size w w') : EnvE w' := kept hb h

theorem noUnwrap (v : Value) (w : World) : (Instr.typeAssert (.iface 32 v) 36 202 true).run Tryz.prog w = .ok (.tuple #[.nilIface, .bool false]) w :=
  run_typeAssert_lacksB Tryz.underlying202 (by kernel_rfl) (by kernel_rfl) v 36 w

theorem notAt (n : Int) (w : World) : (Instr.typeAssert (.iface 32 (.int .i64 n)) 36 185 true).run Tryz.prog w = .ok (.tuple #[.pointer none, .bool false]) w := by kernel_rfl

theorem tell_nil (w : World) : Calls Tryz.prog 38 #[.nilIface] w fun e w' => e = .returned (.int .i64 0) ∧ w = w' := by
  go_enter Tryz.func38, Tryz.ntmps38
  go_wp2_with fail
  go_ret
  exact ⟨rfl, rfl⟩

set_option maxRecDepth 100000 in
theorem tell_errno (n : Int) (w : World) (hg : EnvE w) : Calls Tryz.prog 38 #[.iface 32 (.int .i64 n)] w fun e w' => e = .returned (.int .i64 n) ∧ Below w.heap.size w w' := by
  have hb0 := below_alloc w (.cells #[.int .i64 0] 32)
  have hg1 : EnvE _ := hg.below hb0
  have H := Lib.hid (as_hit n ⟨w.heap.size, 0, none⟩ (.int .i64 0) (w.alloc (.cells #[.int .i64 0] 32)) hg1 (by go_cell) (by simp [go_sem]))
  clear hg1
  go_enter Tryz.func38, Tryz.ntmps38
  go_wp2_with fail
  refine H.out.mono ?_
  rintro E w1 ⟨rfl, hw⟩
  have hc : w1.cell? ⟨w.heap.size, 0, none⟩ = some (.int .i64 n) := by
    rw [hw]
    go_cell
  have hB : Below w.heap.size w w1 := by
    rw [hw]
    go_grown
  clear hw
  go_wp2_with fail
  go_ret
  exact ⟨rfl, hB⟩

theorem place_nil (w : World) : Calls Tryz.prog 135 #[.nilIface] w fun e w' => e = .returned (.tuple #[.int .i64 0, .int .i64 (-1)]) ∧ w = w' := by
  go_enter Tryz.func135, Tryz.ntmps135
  go_wp2_with (go_at_call 38; refine (tell_nil _).mono ?_; rintro E w' ⟨rfl, rfl⟩)
  refine wp_loop_rounds 1 ?_
  rw [rounds_succ]
  go_wp2_with fail
  go_ret2
  exact ⟨rfl, rfl⟩

set_option maxRecDepth 100000 in
theorem place_errno (n : Int) (w : World) (hg : EnvE w) : Calls Tryz.prog 135 #[.iface 32 (.int .i64 n)] w fun e w' => e = .returned (.tuple #[.int .i64 n, .int .i64 (-1)]) ∧ Below w.heap.size w w' := by
  have nu := noUnwrap (.int .i64 n)
  have na := notAt n
  go_enter Tryz.func135, Tryz.ntmps135
  go_wp2_with fail
  refine (tell_errno n w hg).mono ?_
  rintro E w1 ⟨rfl, hB⟩
  go_wp2_with fail
  refine wp_loop_rounds 1 ?_
  rw [rounds_succ]
  go_wp2_with fail
  go_ret2
  exact ⟨rfl, hB⟩

/-- an error of the program's: none, or an Errno -/
def errV (n : Int) : Value := if n = 0 then .nilIface else .iface 32 (.int .i64 n)

def BareIs (n e : Int) (w : World) (E : Ending) (w' : World) : Prop := E = .returned (.bool (n == e)) ∧ Below w.heap.size w w'

theorem bareFault_calls (e : Int) (w : World) : Calls Tryz.prog 64 #[.int .i64 e] w fun E w' => E = .returned (.agg #[.int .i64 e, .int .i64 (-1)]) ∧ Below w.heap.size w w' := by
  go_enter Tryz.func64, Tryz.ntmps64
  go_wp2_with fail
  exact bodyPost_ret (v := .agg #[.int .i64 e, .int .i64 (-1)]) (by simp [results, Tryz.results64, go_sem]) rfl ⟨rfl, by go_grown⟩

set_option maxRecDepth 100000 in
theorem is_nil (e : Int) (w : World) : Calls Tryz.prog 63 #[.nilIface, .agg #[.int .i64 e, .int .i64 (-1)]] w (BareIs 0 e w) := by
  have hb0 := below_alloc w (.cells #[.int .i64 e, .int .i64 (-1)] 96)
  have he : ((0 : Int) == e) = true ∨ ((0 : Int) == e) = false := by cases ((0 : Int) == e) <;> simp
  rcases he with he | he
  all_goals
    have F := Lib.hid he
    go_enter Tryz.func63, Tryz.ntmps63
    go_wp2_with fail
    refine (place_nil _).mono ?_
    rintro E w1 ⟨rfl, rfl⟩
    go_wp2_with fail
    go_ret
    exact ⟨ret_bool (by rw [F.out]), hb0⟩

set_option maxRecDepth 100000 in
theorem is_errno (n e : Int) (w : World) (hg : EnvE w) : Calls Tryz.prog 63 #[.iface 32 (.int .i64 n), .agg #[.int .i64 e, .int .i64 (-1)]] w (BareIs n e w) := by
  have hb0 := below_alloc w (.cells #[.int .i64 e, .int .i64 (-1)] 96)
  have hg1 := hg.below hb0
  have he : (n == e) = true ∨ (n == e) = false := by cases (n == e) <;> simp
  rcases he with he | he
  all_goals
    have F := Lib.hid he
    go_enter Tryz.func63, Tryz.ntmps63
    go_wp2_with fail
    refine (place_errno n _ hg1).mono ?_
    rintro E w1 ⟨rfl, hb⟩
    have c0 := kept hb (p := ⟨w.heap.size, 0, none⟩) (v := .int .i64 e) (by go_cell)
    have c1 := kept hb (p := ⟨w.heap.size, 1, none⟩) (v := .int .i64 (-1)) (by go_cell)
    have hB := step_below hb0 hb
    clear hb
    go_wp2_with fail
    go_ret
    exact ⟨ret_bool (by rw [F.out]), hB⟩

set_option maxRecDepth 100000 in
/-- the statements' bare: is this error that Errno, without a place -/
theorem bare_calls (n e : Int) (w : World) (hg : EnvE w) : Calls Tryz.prog 14 #[errV n, .int .i64 e] w (BareIs n e w) := by
  unfold errV
  by_cases hn : n = 0
  · rw [if_pos hn, hn]
    clear hn
    go_enter Tryz.func14, Tryz.ntmps14
    go_wp2_with fail
    refine (bareFault_calls e _).mono ?_
    rintro E w1 ⟨rfl, hB⟩
    go_wp2_with fail
    refine (is_nil e _).mono ?_
    rintro E w2 ⟨rfl, hb⟩
    have hB := step_below hB hb
    go_wp2_with fail
    go_ret
    exact ⟨rfl, hB⟩
  · rw [if_neg hn]
    clear hn
    go_enter Tryz.func14, Tryz.ntmps14
    go_wp2_with fail
    refine (bareFault_calls e _).mono ?_
    rintro E w1 ⟨rfl, hB⟩
    have hg1 := hg.below hB
    go_wp2_with fail
    refine (is_errno n e _ hg1).mono ?_
    rintro E w2 ⟨rfl, hb⟩
    have hB := step_below hB hb
    go_wp2_with fail
    go_ret
    exact ⟨rfl, hB⟩
end Go.Proofs.YtodbbfgkclkpgaaGreatDoor

namespace Go.Proofs.YtodbbfgkclkpgaaGreatDoor
open Go.RowKit

theorem info_str : (Tryz.prog.info? 9).map (fun i => (i.zero, i.size, i.bytes)) = some (some (.string ⟨#[]⟩), 1, 16) := by kernel_rfl

end Go.Proofs.YtodbbfgkclkpgaaGreatDoor
