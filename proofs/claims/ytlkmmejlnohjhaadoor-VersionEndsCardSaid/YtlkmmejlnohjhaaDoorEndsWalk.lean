/- The walks of VersionEnds: pick, digits, and the law over what its callees give. -/
import Derived.Test.YtlkmmejlnohjhaaDoorOrderLaw
import Derived.Test.YtlkmmejlnohjhaaDoorEndsPlain
import Derived.Laws.BytesArg
import Derived.Test.YtlkmmejlnohjhaaDoorShelfB
namespace Go.Proofs.YtlkmmejlnohjhaaDoor
open Go.RowKit

def pickV (a n : Int) : Int := wrap64 ((IntKind.u64.wrap a).tmod n)
def PickIs (a n : Int) (w : World) (E : Ending) (w' : World) : Prop := E = .returned (.int .i64 (pickV a n)) ∧ w = w'

theorem pick_num (a n : Int) (h0 : 1 ≤ n) (h1 : n ≤ 1000) : ∃ k : Nat, (k : Int) < n ∧ pickV a n = (k : Int) := by
  unfold pickV
  have hw : IntKind.u64.wrap a = a % 18446744073709551616 := IntKind.wrap_u64 a
  have hn : 0 ≤ a % 18446744073709551616 := Int.emod_nonneg _ (by decide)
  have hr : (a % 18446744073709551616).tmod n = (a % 18446744073709551616) % n := Int.tmod_eq_emod_of_nonneg hn
  rw [hw, hr]
  have l0 := Int.emod_nonneg (a % 18446744073709551616) (b := n) (by omega)
  have l1 := Int.emod_lt_of_pos (a % 18446744073709551616) (b := n) (by omega)
  generalize (a % 18446744073709551616) % n = r at l0 l1
  refine ⟨r.toNat, by omega, ?_⟩
  unfold wrap64
  omega

set_option maxRecDepth 100000 in
theorem pick_calls (a n : Int) (h0 : 1 ≤ n) (h1 : n ≤ 1000) (w : World) : Calls Tryd.prog 20 #[.int .i64 a, .int .i64 n] w (PickIs a n w) := by
  have hn : (n == 0) = false := by rw [beq_eq_false_iff_ne]; omega
  have hu : IntKind.u64.wrap n = n := by rw [IntKind.wrap_u64]; omega
  go_enter Tryd.func20, Tryd.ntmps20
  go_wp2
  go_ret
  exact ⟨rfl, rfl⟩

def DigIs (n : Nat) (w : World) (E : Ending) (w' : World) : Prop := ∃ t : ByteArray, E = .returned (.string t) ∧ t.data.toList = Lib.decDigits n ∧ t.size ≤ 3 ∧ Below w.heap.size w w'
theorem dig_mk {n : Nat} {w w' : World} {t : ByteArray} (hn : n < 1000) (ht : t.data.toList = Lib.decDigits n) (hb : Below w.heap.size w w') : DigIs n w (.returned (.string t)) w' := by
  refine ⟨t, rfl, ht, ?_, hb⟩
  have := VP.nDigits_le 2 n hn
  rw [size_eq_length, ht, Lib.decDigits_length]
  exact this

set_option maxRecDepth 100000 in
theorem digits_small (n : Nat) (w : World) (hn : n < 10) :
    Calls Tryd.prog 23 #[.int .i64 (n : Int)] w (DigIs n w) := by
  have hd := Lib.hid (Lib.decDigits_one hn)
  have hcv := run_convert_bytes_arg (P := Tryd.prog) (w.alloc (.cells #[.int .u8 (48 + (n : Int))] 5)) 78 5 Tryd.underlying78 Tryd.underlying5 w.heap.size 0 1 1 [48 + (n : Int)] rfl
    (by intro i hi; obtain rfl : i = 0 := by omega
        go_cell) 9 Tryd.underlying9
  have hst : (strOfNums [48 + (n : Int)]).data.toList = [UInt8.ofNat (48 + n)] := by
    rw [strOfNums_data]
    simp only [List.map_cons, List.map_nil]
    congr 2
  have HS := Lib.hid hst
  clear hst
  go_enter Tryd.func23, Tryd.ntmps23
  go_wp2_with fail
  go_ret
  exact dig_mk (by omega) (HS.out.trans hd.out.symm) (below_alloc _ _)

set_option maxRecDepth 100000 in
theorem digits_calls (k : Nat) : ∀ (n : Nat) (w : World), n ≤ k → n < 1000 →
    Calls Tryd.prog 23 #[.int .i64 (n : Int)] w (DigIs n w) := by
  induction k with
  | zero => intro n w hk _; exact digits_small n w (by omega)
  | succ k ih =>
    intro n w hk hlt
    by_cases hn : n < 10
    · exact digits_small n w hn
    · have hd := Lib.hid (show Lib.decDigits n = Lib.decDigits (n / 10) ++ [UInt8.ofNat (48 + n % 10)] by rw [Lib.decDigits, dif_neg hn])
      have h1 := Lib.hid (fun w => ih (n / 10) w (by omega) (by omega))
      have h2 := Lib.hid (fun w => digits_small (n % 10) w (by omega))
      have h3 := Lib.hid (Lib.decDigits_one (show n % 10 < 10 by omega))
      clear ih
      have hn' : 10 ≤ n := by omega
      go_enter Tryd.func23, Tryd.ntmps23
      go_wp2_with fail
      refine (h1.out _).mono ?_
      rintro E w1 ⟨s1, rfl, e1, z1, hb1⟩
      have E1 := Lib.hid e1
      clear e1
      go_wp2_with fail
      refine (h2.out _).mono ?_
      rintro E w2 ⟨s2, rfl, e2, z2, hb2⟩
      have E2 := Lib.hid e2
      clear e2
      have hB := step_below hb1 hb2
      clear hb1 hb2
      go_wp2_with fail
      go_ret
      exact dig_mk hlt (by rw [append_data, E1.out, E2.out, h3.out, hd.out]) hB

theorem rep_list (c : Nat) : Lib.repeatL [48] c = List.replicate c 48 := by
  induction c with
  | zero => rfl
  | succ c ih => rw [Lib.repeatL, ih, List.replicate_succ]; rfl

theorem call_rep (c : Nat) (hc : c ≤ 4) (w : World) : Calls Tryd.prog 22 #[.string ⟨#[48]⟩, .int .i64 (c : Int)] w fun E w' => ∃ t : ByteArray, E = .returned (.string t) ∧ t.data.toList = List.replicate c 48 ∧ t.size ≤ 4 ∧ Below w.heap.size w w' :=
  (Tryd.strings_Repeat ⟨#[48]⟩ c w (by omega) (by show 1 * c ≤ _; omega)).mono fun E w' ⟨he, hb⟩ => by
    have e := rep_list c
    exact ⟨_, he, e, by rw [size_eq_length]; show (Lib.repeatL [48] c).length ≤ 4; rw [e, List.length_replicate]; exact hc, hb⟩
end Go.Proofs.YtlkmmejlnohjhaaDoor
