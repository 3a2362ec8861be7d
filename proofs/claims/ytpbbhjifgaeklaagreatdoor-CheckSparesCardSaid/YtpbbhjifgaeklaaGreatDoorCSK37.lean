/- stevedorekeep.pick: a number below another one. · append(dst, src...) on a row of the call's own, from a slice that may be nil: at a step of a region that draws its order. -/
import Derived.Test.YtpbbhjifgaeklaaGreatDoorCSK9
import Derived.Test.YtpbbhjifgaeklaaGreatDoorCSK5
import Derived.RegionTactic
namespace Go.Proofs.YtpbbhjifgaeklaaGreatDoor
open Go Go.RowKit

/-! pick -/
def pickV (a n : Int) : Int := wrap64 ((IntKind.u64.wrap a).tmod n)
def PickIs (a n : Int) (w : World) (E : Ending) (w' : World) : Prop := E = .returned (.int .i64 (pickV a n)) ∧ w = w'
theorem pick_num (a n : Int) (h0 : 1 ≤ n) (h1 : n ≤ 1000) : ∃ k : Nat, (k : Int) < n ∧ pickV a n = (k : Int) := by
  unfold pickV
  have hw : IntKind.u64.wrap a = a % 18446744073709551616 := IntKind.wrap_u64 a
  have hn : 0 ≤ a % 18446744073709551616 := Int.emod_nonneg _ (by decide)
  have hr : (a % 18446744073709551616).tmod n = (a % 18446744073709551616) % n := Int.tmod_eq_emod_of_nonneg hn
  rw [hw, hr]
  have l0 := Int.emod_nonneg (a % 18446744073709551616) (b := n) (by omega)
  have l1 := Int.emod_lt_of_pos (a % 18446744073709551616) (b := n) (by omega)
  generalize (a % 18446744073709551616) % n = r at l0 l1
  refine ⟨r.toNat, by omega, ?_⟩
  unfold wrap64
  omega
set_option maxRecDepth 100000 in
theorem pick_calls (a n : Int) (h0 : 1 ≤ n) (h1 : n ≤ 1000) (w : World) : Calls Tryz.prog 15 #[.int .i64 a, .int .i64 n] w (PickIs a n w) := by
  have hn : (n == 0) = false := by rw [beq_eq_false_iff_ne]; omega
  have hu : IntKind.u64.wrap n = n := by rw [IntKind.wrap_u64]; omega
  go_enter Tryz.func15, Tryz.ntmps15
  go_wp2
  go_ret
  exact ⟨rfl, rfl⟩
end Go.Proofs.YtpbbhjifgaeklaaGreatDoor

namespace Go.Proofs.YtpbbhjifgaeklaaGreatDoor
open Go Go.RowKit

section
variable {P : Program} (w : World)
theorem run_append_src (t ty : TypeId) (base : Nat) (e : TypeId) (i : TypeInfo) (z : Value) (size bytes : Nat) (ht : P.underlying t = some (.slice e)) (hi : P.info? e = some i) (hz : i.zero = some z)
    (hsize : i.size = size) (hby : i.bytes = bytes) (hzs : z.cells.size = size) (hsz : 0 < size)
    (v : Value) (n : Nat) (xs : List Value) (hown : w.ownsRow base e size v n xs)
    (y : Value) (m : Nat) (news : List Value) (hsrc : SrcIs w y m news) (hl : news.length = m * size) (h1 : ∀ u ∈ news, u.oneCell' = true)
    (h63 : n + m ≤ maxLen) (hbytes : (n + m) * bytes ≤ 140737488355328) (hbase : base ≤ w.heap.size) :
    ∃ v' w', (Builtin.append_ #[t, t] ty #[v, y]).run P w = .ok v' w' ∧ w'.ownsRow base e size v' (n + m) (xs ++ news) ∧ w.grownBy w' v.ownBlock := by
  obtain ⟨A, c, rfl, hc⟩ := hsrc
  cases A with
  | some ad =>
    obtain ⟨v', w', hr, h2, h3, _⟩ := run_append_own (P := P) w base t ty e i z size bytes ht hi hz hsize hby hzs hsz v n xs hown ad m c news hl (fun j u hj => by
      by_cases hm : m = 0
      · subst hm
        rw [Nat.zero_mul] at hl
        rw [List.eq_nil_of_length_eq_zero hl] at hj
        cases hj
      · obtain ⟨b, off, hA, hcc⟩ := hc hm
        obtain rfl := Option.some.inj hA
        rw [Go.WideShapes.add_plain]
        exact hcc j u hj) h1 h63 hbytes hbase
    exact ⟨v', w', hr, h2, h3⟩
  | none =>
    have hm0 : m = 0 := by
      by_cases hm : m = 0
      · exact hm
      · obtain ⟨b, off, hA, _⟩ := hc hm
        cases hA
    subst hm0
    rw [Nat.zero_mul] at hl
    obtain rfl := List.eq_nil_of_length_eq_zero hl
    rcases id hown.2 with ⟨rfl, rfl⟩ | ⟨g, cap, cur, rfl, hbg, hg, hnc, hcm, hcs, htake⟩
    · refine ⟨.slice none 0 0, w, ?_, by rw [List.append_nil]; exact hown, World.grownBy.refl _ _⟩
      simp [Builtin.append_, run_underlying ht, sizeOf, typeInfo, hi, Builtin.lenOf, Builtin.firstCells]
    · have hr := run_append_room_src (P := P) w t t ty e i ht hi g 0 n cap (.slice none 0 c) 0 [] (Src.ofNil w ht c) (by omega) (fun j hj => by cases hj) (fun j hj => by cases hj)
      rw [setCells_nil] at hr
      exact ⟨_, w, hr, by rw [List.append_nil]; exact hown, World.grownBy.refl _ _⟩

theorem step_append_src {ops : Array Oper} {o : Oper} {a : Act} {K : Act → World → Prop} {Q : Exit → Act → World → Prop} {E : Prop} (hgd : o.guard = none) (s x : Operand) (t : TypeId)
    (ho : o.op = .call { callee := .builtin .append, args := #[s, x], argTypes := #[t, t] })
    (base : Nat) (e : TypeId) (i : TypeInfo) (z : Value) (size bytes : Nat) (ht : P.underlying t = some (.slice e)) (hi : P.info? e = some i) (hz : i.zero = some z)
    (hsize : i.size = size) (hby : i.bytes = bytes) (hzs : z.cells.size = size) (hsz : 0 < size)
    (v : Value) (n : Nat) (xs : List Value) (hs : a.eval s = v) (hown : w.ownsRow base e size v n xs)
    (y : Value) (m : Nat) (news : List Value) (hx : a.eval x = y) (hsrc : SrcIs w y m news) (hl : news.length = m * size) (h1 : ∀ u ∈ news, u.oneCell' = true)
    (h63 : n + m ≤ maxLen) (hbytes : (n + m) * bytes ≤ 140737488355328) (hbase : base ≤ w.heap.size)
    (h : ∀ v' w', w'.ownsRow base e size v' (n + m) (xs ++ news) → w.grownBy w' v.ownBlock → K (a.put o.dst v') w') :
    if Region.wanted o (yielded ops a.tmps) = true then Oper.wp P o a w K Q else E := by
  have hw : Region.wanted o (yielded ops a.tmps) = true := by simp [Region.wanted, hgd]
  rw [if_pos hw]
  obtain ⟨v', w', hr, h2, h3⟩ := run_append_src (P := P) w t o.type base e i z size bytes ht hi hz hsize hby hzs hsz v n xs hown y m news hsrc hl h1 h63 hbytes hbase
  unfold Oper.wp execOp
  simp only [ho, resolve, invoke, builtin, Sem.run_bind, Sem.run_pure, Result.andThen_ok, List.map_toArray, List.map_cons, List.map_nil, hs, hx, hr]
  exact h v' w' h2 h3
end
end Go.Proofs.YtpbbhjifgaeklaaGreatDoor
